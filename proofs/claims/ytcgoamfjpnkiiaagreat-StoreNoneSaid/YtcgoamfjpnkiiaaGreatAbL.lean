/- One operation, over an abstract heap. Conditions: none. -/
import Derived.Test.YtcgoamfjpnkiiaaGreatAbK
set_option linter.all false
namespace Go.Ab
noncomputable section
open Go.RowKit

abbrev FunA := List Value → H → Option (Value × H)
abbrev FunT := FuncId → Option FunA

def aMapM (ev : Operand → Option Value) : List Operand → Option (List Value)
  | [] => some []
  | x :: xs => match ev x, aMapM ev xs with
    | some v, some vs => some (v :: vs)
    | _, _ => none

def aParts (ev : Operand → Option Value) : List (Nat × Operand) → Option (List (Nat × Value))
  | [] => some []
  | (i, x) :: xs => match ev x, aParts ev xs with
    | some v, some vs => some ((i, v) :: vs)
    | _, _ => none

def aOpt (ev : Operand → Option Value) : Option Operand → Option (Option Value)
  | none => some none
  | some x => (ev x).map some

/-- Not known. -/
def undefA : Value := .tuple #[.tuple #[]]
/-- Known: nothing was put there. -/
def skipA : Value := .tuple #[]
theorem VR.skip {R : Ren} : VR R skipA undef := .tuple _ _ rfl fun i x y p q => by simp at p

def aBuiltin (Ty : Types) (b : Builtin) (ts : List TypeId) (args : List Value) (h : H) : Option (Value × H) :=
  match b, ts, args with
  | .append, [t0, t1], [s, x] => aAppend Ty h t0 t1 s x
  | .copy, [t0, _], [d, s] => match s with
    | .string _ => none
    | _ => aCopy Ty h t0 d s
  | .len, [t], [x] => (aLen Ty h t x).map (·, h)
  | .cap, [t], [x] => (aCap Ty t x).map (·, h)
  | .clear, [t], [x] => (aClear Ty h t x).map (undefA, ·)
  | .complex, _, [x, y] => (aComplex x y).map (·, h)
  | .real, _, [x] => (aReal x).map (·, h)
  | .imag, _, [x] => (aImag x).map (·, h)
  | .min, _, [x, y] => (aMin2 x y).map (·, h)
  | .max, _, [x, y] => (aMax2 x y).map (·, h)
  | _, _, _ => none

def aCall (F : FunT) (f : Value) (args : List Value) (h : H) : Option (Value × H) :=
  match f with
  | .func (.func g) first captured => match F g with
    | some fn => fn (first.toList ++ args ++ captured.toList) h
    | none => none
  | _ => none

/-- One operation: its value ('undefA': none, or not known), and the heap behind it. -/
def aOp (Ty : Types) (F : FunT) (ev : Operand → Option Value) (op : Op) (h : H) : Option (Value × H) :=
  match op with
  | .move x | .assign x => some ((ev x).getD undefA, h)
  | .pick c a b => match ev c with
    | some (.bool t) => some ((ev (cond t a b)).getD undefA, h)
    | _ => none
  | .alloc e => aAlloc Ty h e
  | .box e x => (ev x).map (aBox h e ·)
  | .build t parts => match aParts ev parts.toList with
    | some ps => (aBuild Ty t ps).map (·, h)
    | none => none
  | .buildSlice t len parts => match aParts ev parts.toList with
    | some ps => aBuildSlice Ty h t len ps
    | none => none
  | .load t a => match ev a with
    | some x => (aLoad Ty h t x).map (·, h)
    | none => none
  | .store t a x => match ev a, ev x with
    | some p, some v => (aStore Ty h t p v).map (undefA, ·)
    | _, _ => none
  | .nilCheck x => match ev x with
    | some v => (aNilCheck v).map (·, h)
    | none => none
  | .binOp op t x y _ => match ev x, ev y with
    | some a, some b => (aBin Ty op t a b).map (·, h)
    | _, _ => none
  | .unOp op _ x => match ev x with
    | some a => (aUn op a).map (·, h)
    | none => none
  | .convert src dst x => match ev x, Ty src with
    | some a, some _ => match aConv Ty dst a with
      | some v => some (v, h)
      | none => aStrBytes Ty h src dst a
    | _, _ => none
  | .makeFunc fn first captured => match aMapM ev first.toList, aMapM ev captured.toList with
    | some us, some vs => some (.func fn us.toArray vs.toArray, h)
    | _, _ => none
  | .makeMap t r => match r with
    | none => some (.map (some h.n), h.new (.map [] 0 t))
    | some _ => none
  | .makeSlice t l c => match ev l, ev c with
    | some a, some b => aMakeSlice Ty h t a b
    | _, _ => none
  | .slice t x lo hi mx => match ev x, aOpt ev lo, aOpt ev hi, aOpt ev mx with
    | some a, some l, some u, some m => (aSlice Ty t a l u m).map (·, h)
    | _, _, _, _ => none
  | .fieldAddr t x f => match ev x with
    | some a => (aFieldAddr Ty t a f).map (·, h)
    | none => none
  | .field t x f => match ev x with
    | some a => (aField Ty t a f).map (·, h)
    | none => none
  | .indexAddr t x i => match ev x, ev i with
    | some a, some b => (aIndexAddr Ty t a b).map (·, h)
    | _, _ => none
  | .index t x i => match ev x, ev i with
    | some a, some b => (aIndex Ty t a b).map (·, h)
    | _, _ => none
  | .lookup t x i ok => match ev x, ev i with
    | some a, some b => (aLookup Ty h t a b ok).map (·, h)
    | _, _ => none
  | .mapUpdate t m k x | .insert t m k x => match ev m, ev k, ev x with
    | some a, some b, some c => (aMapUpdate Ty h t a b c).map (undefA, ·)
    | _, _, _ => none
  | .mapEntry t m k => match ev m, ev k with
    | some a, some b => aMapEntry Ty h t a b
    | _, _ => none
  | .entryStore _ m s x => match ev m, ev s, ev x with
    | some a, some b, some c => (aEntryStore h a b c).map (undefA, ·)
    | _, _, _ => none
  | .range t x => match ev x with
    | some a => aRangeStr Ty h t a
    | none => none
  | .next it true => match ev it with
    | some a => aNextStr h a
    | none => none
  | .next it false => match ev it with
    | some a => aNextMap h a
    | none => none
  | .entry it => match ev it with
    | some a => (aEntry h a).map (·, h)
    | none => none
  | .extract t i => match ev t with
    | some a => (aExtract a i).map (·, h)
    | none => none
  | .call { callee := .builtin b, args, argTypes } => match aMapM ev args.toList with
    | some vs => aBuiltin Ty b argTypes.toList vs h
    | none => none
  | .call { callee := .value f, args, .. } => match ev f, aMapM ev args.toList with
    | some g, some vs => aCall F g vs h
    | _, _ => none
  | _ => none

/-- What a function's abstract form owes. -/
def SoundF (P : Program) (g : FuncId) (f : FunA) : Prop :=
  ∀ args h v h', f args h = some (v, h') → (Wf h → Q h h') ∧ ∀ (R : Ren) (w : World) (args' : Array Value), Rel h R w → LR R args args'.toList → (∀ id, h.n ≤ id → id < h'.n → R id = none) →
    Calls P g args' w fun e w' => ∃ v' R', e = .returned v' ∧ Step h R w h' R' w' ∧ VR R' v v'

def Enters (P : Program) (g : FuncId) : Prop := ∃ fn, P.funcs[g]? = some fn ∧ fn.body.isSome = true ∧ (fn.name == "runtime.NumGoroutine") = false

def SoundT (P : Program) (F : FunT) : Prop := ∀ g f, F g = some f → Enters P g ∧ SoundF P g f

def EvR (R : Ren) (ev : Operand → Option Value) (a : Act) : Prop := ∀ x v, ev x = some v → VR R v (a.eval x)

section
variable {P : Program} {Ty : Types} {h : H} {R : Ren} {w : World} {a : Act} {ev : Operand → Option Value}

theorem aMapM_sound (hev : EvR R ev a) : ∀ (xs : List Operand) (vs : List Value), aMapM ev xs = some vs → LR R vs (xs.map a.eval)
  | [], vs, h => by simp only [aMapM, Option.some.injEq] at h; subst h; exact ⟨rfl, fun i x y p q => by simp at p⟩
  | x :: xs, vs, h => by
    simp only [aMapM] at h
    cases h1 : ev x with
    | none => rw [h1] at h; cases h
    | some v =>
      cases h2 : aMapM ev xs with
      | none => rw [h1, h2] at h; cases h
      | some us =>
        rw [h1, h2] at h
        cases h
        have ih := aMapM_sound hev xs us h2
        refine ⟨by simp [ih.1], fun i p q hp hq => ?_⟩
        cases i with
        | zero => simp at hp hq; subst hp; subst hq; exact hev x _ h1
        | succ i => exact ih.2 i p q (by simpa using hp) (by simpa using hq)

theorem aParts_sound (hev : EvR R ev a) : ∀ (xs : List (Nat × Operand)) (vs : List (Nat × Value)), aParts ev xs = some vs → PR R vs (xs.map fun (i, x) => (i, a.eval x))
  | [], vs, h => by simp only [aParts, Option.some.injEq] at h; subst h; exact ⟨rfl, fun i x y p q => by simp at p⟩
  | (j, x) :: xs, vs, h => by
    simp only [aParts] at h
    cases h1 : ev x with
    | none => rw [h1] at h; cases h
    | some v =>
      cases h2 : aParts ev xs with
      | none => rw [h1, h2] at h; cases h
      | some us =>
        rw [h1, h2] at h
        cases h
        have ih := aParts_sound hev xs us h2
        refine ⟨by simp [ih.1], fun i p q hp hq => ?_⟩
        cases i with
        | zero => simp at hp hq; subst hp; subst hq; exact ⟨rfl, hev x _ h1⟩
        | succ i => exact ih.2 i p q (by simpa using hp) (by simpa using hq)

theorem aOpt_sound (hev : EvR R ev a) {x : Option Operand} {v : Option Value} (h : aOpt ev x = some v) : OVR R v (x.map a.eval) := by
  cases x with
  | none => simp only [aOpt, Option.some.injEq] at h; subst h; trivial
  | some x =>
    simp only [aOpt, Option.map_eq_some_iff] at h
    obtain ⟨u, hu, rfl⟩ := h
    exact hev x u hu

/-- The value of a step: it is borne, or nothing is known of it. -/
def KR (R : Ren) (v v' : Value) : Prop := isUndef v = true ∨ VR R v v'

theorem KR.ofEv (hev : EvR R ev a) (x : Operand) : KR R ((ev x).getD undefA) (a.eval x) := by
  cases h : ev x with
  | none => exact .inl rfl
  | some v => exact .inr (hev x v h)

theorem exec_ok {o : Oper} {nx : Next} {w' : World} {next : Act → World → Prop} {Q : Exit → Act → World → Prop} (h1 : (execOp a.eval o).run P w = .ok nx w') (h2 : o.upon P a next Q (.ok nx w')) : o.wp P a w next Q := by
  unfold Oper.wp; rw [h1]; exact h2

theorem call_run {o : Oper} {c : Call} (ho : o.op = .call c) {g : FuncId} {first captured : Array Value} {f : Operand} (hc : c.callee = .value f) (hf : a.eval f = .func (.func g) first captured) (hg : Enters P g) :
    (execOp a.eval o).run P w = .ok (.enter g (first ++ c.args.map a.eval ++ captured)) w := by
  obtain ⟨fn, h1, h2, h3⟩ := hg
  have h4 : ¬ fn.body = none := by intro e; rw [e] at h2; cases h2
  have h5 : ¬ fn.name = "runtime.NumGoroutine" := by simpa using h3
  simp [execOp, ho, resolve, hc, hf, Deferred.ofValue, invoke, callFunc, h1, h4, h5]

theorem bi_run {o : Oper} {c : Call} (ho : o.op = .call c) {b : Builtin} (hc : c.callee = .builtin b) {ss : Sem Value} (hs : ∀ cs, builtin b c.argTypes o.type cs (c.args.map a.eval) = (do pure (.value (← ss)))) {v : Value} {w' : World} (hr : ss.run P w = .ok v w') :
    (execOp a.eval o).run P w = .ok (.value v) w' := by
  simp only [execOp, ho, resolve, hc]
  show Sem.run P (do let d ← (pure _ : Sem Deferred); invoke d.target d.args) w = _
  simp only [pure_bind, invoke]
  rw [hs]
  simp [hr]

theorem KR.undef {R : Ren} {v : Value} : KR R undefA v := .inl rfl

theorem two_of {l : List Value} (h : l.length = 2) : ∃ x y, l = [x, y] := by
  match l, h with
  | [x, y], _ => exact ⟨x, y, rfl⟩

/-- One operation, sound: whatever holds behind it for every world that bears what it makes holds. -/
theorem aOp_wp (hT : TyOk P Ty) {F : FunT} (hF : SoundT P F) {o : Oper} {v : Value} {h' : H} (he : aOp Ty F ev o.op h = some (v, h')) (hr : Rel h R w) (hev : EvR R ev a) (hfr : ∀ id, h.n ≤ id → id < h'.n → R id = none)
    {next : Act → World → Prop} {Q' : Exit → Act → World → Prop} (hnext : ∀ v' w' R', Step h R w h' R' w' → KR R' v v' → next (a.put o.dst v') w') : o.wp P a w next Q' := by
  have pureV : ∀ {s : Sem Value} {v' : Value}, execOp a.eval o = (do pure (.value (← s))) → s.run P w = .ok v' w → h' = h → KR R v v' → o.wp P a w next Q' := by
    intro s v' h1 h2 h3 h4
    subst h3
    exact exec_ok (nx := .value v') (w' := w) (by rw [h1]; simp [h2]) (hnext v' w R (Step.refl hr) h4)
  have stepV : ∀ {s : Sem Value}, execOp a.eval o = (do pure (.value (← s))) → (∃ x w' R', s.run P w = .ok x w' ∧ Step h R w h' R' w' ∧ VR R' v x ∧ Q h h') → o.wp P a w next Q' := by
    intro s h1 ⟨x, w', R', h2, h3, h4, _⟩
    exact exec_ok (nx := .value x) (w' := w') (by rw [h1]; simp [h2]) (hnext x w' R' h3 (.inr h4))
  have stepU : ∀ {s : Sem Unit}, execOp a.eval o = (do s; pure .skip) → v = undefA → (∃ w', s.run P w = .ok () w' ∧ Step h R w h' R w' ∧ Q h h') → o.wp P a w next Q' := by
    intro s h1 hv ⟨w', h2, h3, _⟩
    subst hv
    exact exec_ok (nx := .skip) (w' := w') (by rw [h1]; simp [h2]) (hnext undef w' R h3 KR.undef)
  have bi : ∀ {c : Call} {b : Builtin} {s : Sem Value} {x : Value} {w' : World} {R' : Ren}, o.op = .call c → c.callee = .builtin b → (∀ cs, builtin b c.argTypes o.type cs (c.args.map a.eval) = (do pure (.value (← s)))) → s.run P w = .ok x w' → Step h R w h' R' w' → KR R' v x → o.wp P a w next Q' := by
    intro c b s x w' R' h1 h2 h3 h4 h5 h6
    exact exec_ok (bi_run h1 h2 h3 h4) (hnext x w' R' h5 h6)
  cases ho : o.op with
  | move x =>
    rw [ho] at he
    simp only [aOp, Option.some.injEq, Prod.mk.injEq] at he
    obtain ⟨rfl, rfl⟩ := he
    exact exec_ok (nx := .value (a.eval x)) (w' := w) (by simp [execOp, ho]) (hnext _ w R (Step.refl hr) (.ofEv hev x))
  | assign x =>
    rw [ho] at he
    simp only [aOp, Option.some.injEq, Prod.mk.injEq] at he
    obtain ⟨rfl, rfl⟩ := he
    exact exec_ok (nx := .value (a.eval x)) (w' := w) (by simp [execOp, ho]) (hnext _ w R (Step.refl hr) (.ofEv hev x))
  | pick c x y =>
    rw [ho] at he
    simp only [aOp] at he
    split at he
    · rename_i t hc
      simp only [Option.some.injEq, Prod.mk.injEq] at he
      obtain ⟨rfl, rfl⟩ := he
      have hcv := hev c _ hc
      have hce : a.eval c = .bool t := by generalize a.eval c = z at hcv; cases hcv; rfl
      refine exec_ok (nx := .value (a.eval (cond t x y))) (w' := w) ?_ (hnext _ w R (Step.refl hr) (.ofEv hev _))
      cases t <;> simp [execOp, ho, hce, asBool]
    · cases he
  | alloc e =>
    rw [ho] at he
    simp only [aOp] at he
    have hn : R h.n = none := hfr _ (Nat.le_refl _) (by unfold aAlloc at he; split at he <;> cases he; simp)
    exact stepV (by simp only [execOp, ho]) (aAlloc_sound hT hr hn he)
  | box e x =>
    rw [ho] at he
    simp only [aOp, Option.map_eq_some_iff] at he
    obtain ⟨u, hu, hb⟩ := he
    have e1 : v = (aBox h e u).1 := by rw [hb]
    have e2 : h' = (aBox h e u).2 := by rw [hb]
    subst e1; subst e2
    have hn : R h.n = none := hfr _ (Nat.le_refl _) (by simp [aBox])
    exact stepV (by simp only [execOp, ho]) (aBox_sound hr hn (hev x u hu))
  | build t parts =>
    rw [ho] at he
    simp only [aOp] at he
    split at he
    · rename_i ps hps
      simp only [Option.map_eq_some_iff, Prod.mk.injEq] at he
      obtain ⟨u, hu, rfl, rfl⟩ := he
      obtain ⟨v', h1, h2⟩ := aBuild_sound (w := w) (qs := parts.map fun (i, x) => (i, a.eval x)) hT hu (by rw [Array.toList_map]; exact aParts_sound hev _ _ hps)
      exact pureV (by simp only [execOp, ho]) h1 rfl (.inr h2)
    · cases he
  | buildSlice t len parts =>
    rw [ho] at he
    simp only [aOp] at he
    split at he
    · rename_i ps hps
      have hn : R h.n = none := hfr _ (Nat.le_refl _) (by
        unfold aBuildSlice at he
        split at he
        · split at he
          · split at he
            · split at he
              · cases he; simp
              · cases he
            · cases he
          · cases he
        · cases he)
      exact stepV (by simp only [execOp, ho]) (aBuildSlice_sound (qs := parts.map fun (i, x) => (i, a.eval x)) hT hr hn he (by rw [Array.toList_map]; exact aParts_sound hev _ _ hps))
    · cases he
  | load t x =>
    rw [ho] at he
    simp only [aOp] at he
    split at he
    · rename_i p hp
      simp only [Option.map_eq_some_iff, Prod.mk.injEq] at he
      obtain ⟨u, hu, rfl, rfl⟩ := he
      obtain ⟨v', h1, h2⟩ := aLoad_sound (P := P) hT hr hu (hev x p hp)
      exact pureV (by simp only [execOp, ho]) h1 rfl (.inr h2)
    · cases he
  | store t x y =>
    rw [ho] at he
    simp only [aOp] at he
    split at he
    · rename_i p q hp hq
      simp only [Option.map_eq_some_iff, Prod.mk.injEq] at he
      obtain ⟨u, hu, rfl, rfl⟩ := he
      exact stepU (by simp only [execOp, ho]) rfl (aStore_sound hT hr hu (hev x p hp) (hev y q hq))
    · cases he
  | nilCheck x =>
    rw [ho] at he
    simp only [aOp] at he
    split at he
    · rename_i p hp
      simp only [Option.map_eq_some_iff, Prod.mk.injEq] at he
      obtain ⟨u, hu, rfl, rfl⟩ := he
      have hx := hev x p hp
      unfold aNilCheck at hu
      split at hu
      · cases hu
        refine exec_ok (nx := .value (a.eval x)) (w' := w) ?_ (hnext _ w R (Step.refl hr) (.inr hx))
        generalize hz : a.eval x = z at hx
        cases hx
        simp [execOp, ho, hz]
      · cases hu
        refine exec_ok (nx := .value (a.eval x)) (w' := w) ?_ (hnext _ w R (Step.refl hr) (.inr hx))
        generalize hz : a.eval x = z at hx
        cases hx
        simp [execOp, ho, hz]
      · cases hu
    · cases he
  | binOp op t x y ty =>
    rw [ho] at he
    simp only [aOp] at he
    split at he
    · rename_i p q hp hq
      simp only [Option.map_eq_some_iff, Prod.mk.injEq] at he
      obtain ⟨u, hu, rfl, rfl⟩ := he
      obtain ⟨h1, h2⟩ := aBin_sound (w := w) hT x y hu (hev x p hp) (hev y q hq)
      exact pureV (by simp only [execOp, ho]) h1 rfl (.inr (.ofClosedS h2))
    · cases he
  | unOp op t x =>
    rw [ho] at he
    simp only [aOp] at he
    split at he
    · rename_i p hp
      simp only [Option.map_eq_some_iff, Prod.mk.injEq] at he
      obtain ⟨u, hu, rfl, rfl⟩ := he
      obtain ⟨h1, h2⟩ := aUn_sound (P := P) (w := w) hu (hev x p hp)
      exact pureV (by simp only [execOp, ho]) h1 rfl (.inr (.ofClosedS h2))
    · cases he
  | convert src dst x =>
    rw [ho] at he
    simp only [aOp] at he
    split at he
    · rename_i p i0 hp hs
      split at he
      · rename_i u hu
        simp only [Option.some.injEq, Prod.mk.injEq] at he
        obtain ⟨rfl, rfl⟩ := he
        obtain ⟨h1, h2⟩ := aConv_sound (w := w) hT hs hu (hev x p hp)
        exact pureV (by simp only [execOp, ho]) h1 rfl (.inr (.ofClosedS h2))
      · exact stepV (by simp only [execOp, ho]) (aStrBytes_sound hT hr hfr he (hev x p hp))
    · cases he
  | makeFunc fn first captured =>
    rw [ho] at he
    simp only [aOp] at he
    split at he
    · rename_i us vs hus hvs
      simp only [Option.some.injEq, Prod.mk.injEq] at he
      obtain ⟨rfl, rfl⟩ := he
      have l1 := aMapM_sound hev _ _ hus
      have l2 := aMapM_sound hev _ _ hvs
      refine exec_ok (nx := .value (.func fn (first.map a.eval) (captured.map a.eval))) (w' := w) (by simp [execOp, ho, Instr.makeFunc]) (hnext _ w R (Step.refl hr) (.inr ?_))
      refine .func fn _ _ _ _ (by have := l1.1; simpa using this) (fun i x y p q => l1.2 i x y (by simpa using p) ?_) (by have := l2.1; simpa using this) (fun i x y p q => l2.2 i x y (by simpa using p) ?_)
      · rw [← Array.getElem?_toList, Array.toList_map] at q; exact q
      · rw [← Array.getElem?_toList, Array.toList_map] at q; exact q
    · cases he
  | makeMap t r =>
    rw [ho] at he
    simp only [aOp] at he
    cases r with
    | some x => cases he
    | none =>
      simp only [Option.some.injEq, Prod.mk.injEq] at he
      obtain ⟨rfl, rfl⟩ := he
      have hn : R h.n = none := hfr _ (Nat.le_refl _) (by simp)
      have hu : (R.upd h.n ⟨w.heap.size, 0, 0⟩) h.n = some ⟨w.heap.size, 0, 0⟩ := by simp [Ren.upd]
      refine exec_ok (nx := .value (.map (some w.heap.size))) (w' := { w with heap := w.heap.push (.map #[] 0) }) ?_ (hnext _ _ _ (step_new hr hn (.map #[] 0) 0 (.map [] 0 t) ⟨_, #[], hu, by simp, rfl, fun i x y p q => by simp at p⟩) (.inr (.map _ _ hu)))
      have e1 : execOp a.eval o = (do pure (.value (← Instr.makeMap t none))) := by simp only [execOp, ho]; rfl
      rw [e1]
      simp only [Instr.makeMap, Sem.run_bind, run_newObj, Sem.run_pure, Result.andThen_ok]
  | makeSlice t l c =>
    rw [ho] at he
    simp only [aOp] at he
    split at he
    · rename_i p q hp hq
      have hn : R h.n = none := hfr _ (Nat.le_refl _) (by
        unfold aMakeSlice at he
        split at he
        · split at he
          · split at he
            · cases he; simp
            · cases he
          · cases he
        · cases he)
      exact stepV (by simp only [execOp, ho]) (aMakeSlice_sound hT hr hn he (hev l p hp) (hev c q hq))
    · cases he
  | slice t x lo hi mx =>
    rw [ho] at he
    simp only [aOp] at he
    split at he
    · rename_i p l u m hp hl hu hm
      simp only [Option.map_eq_some_iff, Prod.mk.injEq] at he
      obtain ⟨z, hz, rfl, rfl⟩ := he
      obtain ⟨v', h1, h2⟩ := aSlice_sound (P := P) (w := w) hT hz (hev x p hp) (aOpt_sound hev hl) (aOpt_sound hev hu) (aOpt_sound hev hm)
      exact pureV (by simp only [execOp, ho]) h1 rfl (.inr h2)
    · cases he
  | fieldAddr t x f =>
    rw [ho] at he
    simp only [aOp] at he
    split at he
    · rename_i p hp
      simp only [Option.map_eq_some_iff, Prod.mk.injEq] at he
      obtain ⟨u, hu, rfl, rfl⟩ := he
      obtain ⟨v', h1, h2⟩ := aFieldAddr_sound (P := P) (w := w) hT hu (hev x p hp)
      exact pureV (by simp only [execOp, ho]) h1 rfl (.inr h2)
    · cases he
  | field t x f =>
    rw [ho] at he
    simp only [aOp] at he
    split at he
    · rename_i p hp
      simp only [Option.map_eq_some_iff, Prod.mk.injEq] at he
      obtain ⟨u, hu, rfl, rfl⟩ := he
      obtain ⟨v', h1, h2⟩ := aField_sound (P := P) (w := w) hT hu (hev x p hp)
      exact pureV (by simp only [execOp, ho]) h1 rfl (.inr h2)
    · cases he
  | indexAddr t x y =>
    rw [ho] at he
    simp only [aOp] at he
    split at he
    · rename_i p q hp hq
      simp only [Option.map_eq_some_iff, Prod.mk.injEq] at he
      obtain ⟨u, hu, rfl, rfl⟩ := he
      obtain ⟨v', h1, h2⟩ := aIndexAddr_sound (P := P) (w := w) hT hu (hev x p hp) (hev y q hq)
      exact pureV (by simp only [execOp, ho]) h1 rfl (.inr h2)
    · cases he
  | index t x y =>
    rw [ho] at he
    simp only [aOp] at he
    split at he
    · rename_i p q hp hq
      simp only [Option.map_eq_some_iff, Prod.mk.injEq] at he
      obtain ⟨u, hu, rfl, rfl⟩ := he
      obtain ⟨v', h1, h2⟩ := aIndex_sound (P := P) (w := w) hT hu (hev x p hp) (hev y q hq)
      exact pureV (by simp only [execOp, ho]) h1 rfl (.inr h2)
    · cases he
  | lookup t x y ok =>
    rw [ho] at he
    simp only [aOp] at he
    split at he
    · rename_i p q hp hq
      simp only [Option.map_eq_some_iff, Prod.mk.injEq] at he
      obtain ⟨u, hu, rfl, rfl⟩ := he
      obtain ⟨v', h1, h2⟩ := aLookup_sound (P := P) hT hr hu (hev x p hp) (hev y q hq)
      exact pureV (by simp only [execOp, ho]) h1 rfl (.inr h2)
    · cases he
  | mapUpdate t m k x =>
    rw [ho] at he
    simp only [aOp] at he
    split at he
    · rename_i p q r hp hq hrr
      simp only [Option.map_eq_some_iff, Prod.mk.injEq] at he
      obtain ⟨u, hu, rfl, rfl⟩ := he
      exact stepU (by simp only [execOp, ho]) rfl (aMapUpdate_sound hT hr hu (hev m p hp) (hev k q hq) (hev x r hrr))
    · cases he
  | insert t m k x =>
    rw [ho] at he
    simp only [aOp] at he
    split at he
    · rename_i p q r hp hq hrr
      simp only [Option.map_eq_some_iff, Prod.mk.injEq] at he
      obtain ⟨u, hu, rfl, rfl⟩ := he
      exact stepU (by simp only [execOp, ho]) rfl (aMapUpdate_sound hT hr hu (hev m p hp) (hev k q hq) (hev x r hrr))
    · cases he
  | mapEntry t m k =>
    rw [ho] at he
    simp only [aOp] at he
    split at he
    · rename_i p q hp hq
      obtain ⟨x, w', h1, h2, h3, h4⟩ := aMapEntry_sound (P := P) hT hr he (hev m p hp) (hev k q hq)
      exact stepV (by simp only [execOp, ho]) ⟨x, w', R, h1, h2, h3, h4⟩
    · cases he
  | entryStore t m s x =>
    rw [ho] at he
    simp only [aOp] at he
    split at he
    · rename_i p q r hp hq hrr
      simp only [Option.map_eq_some_iff, Prod.mk.injEq] at he
      obtain ⟨u, hu, rfl, rfl⟩ := he
      exact stepU (by simp only [execOp, ho]) rfl (aEntryStore_sound (t := t) hr hu (hev m p hp) (hev s q hq) (hev x r hrr))
    · cases he
  | range t x =>
    rw [ho] at he
    simp only [aOp] at he
    split at he
    · rename_i p hp
      have hn : R h.n = none := hfr _ (Nat.le_refl _) (by
        unfold aRangeStr at he
        split at he
        · cases he; simp
        · cases he; simp
        · split at he
          · cases he; simp
          · cases he
        · cases he)
      exact stepV (by simp only [execOp, ho]) (aRangeStr_sound hT hr hn he (hev x p hp))
    · cases he
  | next it isS =>
    rw [ho] at he
    cases isS with
    | false =>
      simp only [aOp] at he
      split at he
      · rename_i p hp
        obtain ⟨v', w', h1, h2, h3, h4⟩ := aNextMap_sound (P := P) (ty := o.type) hr he (hev it p hp)
        exact stepV (by simp only [execOp, ho]) ⟨v', w', R, h1, h2, h3, h4⟩
      · cases he
    | true =>
      simp only [aOp] at he
      split at he
      · rename_i p hp
        obtain ⟨w', h1, h2, h3, h4⟩ := aNextStr_sound (P := P) (ty := o.type) hr he (hev it p hp)
        exact stepV (by simp only [execOp, ho]) ⟨v, w', R, h1, h2, h3, h4⟩
      · cases he
  | entry it =>
    rw [ho] at he
    simp only [aOp] at he
    split at he
    · rename_i p hp
      simp only [Option.map_eq_some_iff, Prod.mk.injEq] at he
      obtain ⟨u, hu, rfl, rfl⟩ := he
      obtain ⟨v', h1, h2⟩ := aEntry_sound (P := P) hr hu (hev it p hp)
      exact pureV (by simp only [execOp, ho]) h1 rfl (.inr h2)
    · cases he
  | extract t i =>
    rw [ho] at he
    simp only [aOp] at he
    split at he
    · rename_i p hp
      simp only [Option.map_eq_some_iff, Prod.mk.injEq] at he
      obtain ⟨u, hu, rfl, rfl⟩ := he
      obtain ⟨v', h1, h2⟩ := aExtract_sound (P := P) (w := w) hu (hev t p hp)
      exact pureV (by simp only [execOp, ho]) h1 rfl (.inr h2)
    · cases he
  | call c =>
    rw [ho] at he
    obtain ⟨callee, args, argTypes⟩ := c
    cases callee with
    | invoke r n => simp [aOp] at he
    | builtin b =>
      simp only [aOp] at he
      split at he
      · rename_i vs hvs
        have hl := aMapM_sound hev _ _ hvs
        have hargs : ∀ us, args.toList.map a.eval = us → args.map a.eval = us.toArray := by
          intro us hu
          apply Array.ext'
          rw [Array.toList_map, hu]
        have hty : ∀ us, argTypes.toList = us → argTypes = us.toArray := by
          intro us hu
          apply Array.ext'
          rw [hu]
        unfold aBuiltin at he
        split at he
        · rename_i t0 t1 s x hts
          obtain ⟨s', x', hsx⟩ : ∃ s' x', args.toList.map a.eval = [s', x'] := two_of hl.1.symm
          rw [hsx] at hl
          obtain ⟨x1, w', R', h1, h2, h3, h4⟩ := aAppend_sound (P := P) (ty := o.type) hT hr hfr he (hl.2 0 _ _ rfl rfl) (hl.2 1 _ _ rfl rfl)
          exact bi ho rfl (fun cs => by show builtin .append argTypes o.type cs (args.map a.eval) = _; rw [hargs _ hsx, hty _ hts]; rfl) h1 h2 (.inr h3)
        · rename_i t0 t1 d s hts
          obtain ⟨d', s', hsx⟩ : ∃ s' x', args.toList.map a.eval = [s', x'] := two_of hl.1.symm
          rw [hsx] at hl
          split at he
          · cases he
          · rename_i hns
            obtain ⟨w', h1, h2, h3, h4⟩ := aCopy_sound (P := P) (t1 := t1) (ty := o.type) hT hr he (hl.2 0 _ _ rfl rfl) (hl.2 1 _ _ rfl rfl) (fun s0 e hs0 => absurd hs0 (hns s0))
            exact bi ho rfl (fun cs => by show builtin .copy argTypes o.type cs (args.map a.eval) = _; rw [hargs _ hsx, hty _ hts]; rfl) h1 h2 (.inr (.ofClosedS h4))
        · rename_i t x hts
          obtain ⟨x', hsx⟩ : ∃ x', args.toList.map a.eval = [x'] := List.length_eq_one_iff.1 hl.1.symm
          rw [hsx] at hl
          simp only [Option.map_eq_some_iff, Prod.mk.injEq] at he
          obtain ⟨u, hu, rfl, rfl⟩ := he
          obtain ⟨h1, h2⟩ := aLen_sound (P := P) (ty := o.type) hT hr hu (hl.2 0 _ _ rfl rfl)
          exact bi ho rfl (fun cs => by show builtin .len argTypes o.type cs (args.map a.eval) = _; rw [hargs _ hsx, hty _ hts]; rfl) h1 (Step.refl hr) (.inr (.ofClosedS h2))
        · rename_i t x hts
          obtain ⟨x', hsx⟩ : ∃ x', args.toList.map a.eval = [x'] := List.length_eq_one_iff.1 hl.1.symm
          rw [hsx] at hl
          simp only [Option.map_eq_some_iff, Prod.mk.injEq] at he
          obtain ⟨u, hu, rfl, rfl⟩ := he
          obtain ⟨h1, h2⟩ := aCap_sound (P := P) (w := w) (ty := o.type) hT hu (hl.2 0 _ _ rfl rfl)
          exact bi ho rfl (fun cs => by show builtin .cap argTypes o.type cs (args.map a.eval) = _; rw [hargs _ hsx, hty _ hts]; rfl) h1 (Step.refl hr) (.inr (.ofClosedS h2))
        · rename_i t x hts
          obtain ⟨x', hsx⟩ : ∃ x', args.toList.map a.eval = [x'] := List.length_eq_one_iff.1 hl.1.symm
          rw [hsx] at hl
          simp only [Option.map_eq_some_iff, Prod.mk.injEq] at he
          obtain ⟨u, hu, rfl, rfl⟩ := he
          obtain ⟨w', h1, h2, h3⟩ := aClear_sound (P := P) (ty := o.type) hT hr hu (hl.2 0 _ _ rfl rfl)
          exact bi ho rfl (fun cs => by show builtin .clear argTypes o.type cs (args.map a.eval) = _; rw [hargs _ hsx, hty _ hts]; rfl) h1 h2 KR.undef
        · rename_i x y
          obtain ⟨x', y', hsx⟩ : ∃ s' x', args.toList.map a.eval = [s', x'] := two_of hl.1.symm
          rw [hsx] at hl
          simp only [Option.map_eq_some_iff, Prod.mk.injEq] at he
          obtain ⟨u, hu, rfl, rfl⟩ := he
          obtain ⟨h1, h2⟩ := aComplex_sound (P := P) (w := w) (ts := argTypes) (ty := o.type) hu (hl.2 0 _ _ rfl rfl) (hl.2 1 _ _ rfl rfl)
          exact bi ho rfl (fun cs => by show builtin .complex argTypes o.type cs (args.map a.eval) = _; rw [hargs _ hsx]; rfl) h1 (Step.refl hr) (.inr (.ofClosedS h2))
        · rename_i x
          obtain ⟨x', hsx⟩ : ∃ x', args.toList.map a.eval = [x'] := List.length_eq_one_iff.1 hl.1.symm
          rw [hsx] at hl
          simp only [Option.map_eq_some_iff, Prod.mk.injEq] at he
          obtain ⟨u, hu, rfl, rfl⟩ := he
          obtain ⟨h1, h2⟩ := aReal_sound (P := P) (w := w) (ts := argTypes) (ty := o.type) hu (hl.2 0 _ _ rfl rfl)
          exact bi ho rfl (fun cs => by show builtin .real argTypes o.type cs (args.map a.eval) = _; rw [hargs _ hsx]; rfl) h1 (Step.refl hr) (.inr (.ofClosedS h2))
        · rename_i x
          obtain ⟨x', hsx⟩ : ∃ x', args.toList.map a.eval = [x'] := List.length_eq_one_iff.1 hl.1.symm
          rw [hsx] at hl
          simp only [Option.map_eq_some_iff, Prod.mk.injEq] at he
          obtain ⟨u, hu, rfl, rfl⟩ := he
          obtain ⟨h1, h2⟩ := aImag_sound (P := P) (w := w) (ts := argTypes) (ty := o.type) hu (hl.2 0 _ _ rfl rfl)
          exact bi ho rfl (fun cs => by show builtin .imag argTypes o.type cs (args.map a.eval) = _; rw [hargs _ hsx]; rfl) h1 (Step.refl hr) (.inr (.ofClosedS h2))
        · rename_i x y
          obtain ⟨x', y', hsx⟩ : ∃ s' x', args.toList.map a.eval = [s', x'] := two_of hl.1.symm
          rw [hsx] at hl
          simp only [Option.map_eq_some_iff, Prod.mk.injEq] at he
          obtain ⟨u, hu, rfl, rfl⟩ := he
          obtain ⟨h1, h2⟩ := aMin2_sound (P := P) (w := w) hu (hl.2 0 _ _ rfl rfl) (hl.2 1 _ _ rfl rfl)
          exact bi ho rfl (s := Builtin.min_ argTypes o.type #[x', y']) (fun cs => by show builtin .min argTypes o.type cs (args.map a.eval) = _; rw [hargs _ hsx]; rfl) (by simp [Builtin.min_, h1]) (Step.refl hr) (.inr (.ofClosedS h2))
        · rename_i x y
          obtain ⟨x', y', hsx⟩ : ∃ s' x', args.toList.map a.eval = [s', x'] := two_of hl.1.symm
          rw [hsx] at hl
          simp only [Option.map_eq_some_iff, Prod.mk.injEq] at he
          obtain ⟨u, hu, rfl, rfl⟩ := he
          obtain ⟨h1, h2⟩ := aMax2_sound (P := P) (w := w) hu (hl.2 0 _ _ rfl rfl) (hl.2 1 _ _ rfl rfl)
          exact bi ho rfl (s := Builtin.max_ argTypes o.type #[x', y']) (fun cs => by show builtin .max argTypes o.type cs (args.map a.eval) = _; rw [hargs _ hsx]; rfl) (by simp [Builtin.max_, h1]) (Step.refl hr) (.inr (.ofClosedS h2))
        · cases he
      · cases he
    | value f =>
      simp only [aOp] at he
      split at he
      · rename_i g vs hg hvs
        have hl := aMapM_sound hev _ _ hvs
        have hgv := hev f g hg
        unfold aCall at he
        split at he
        · rename_i gid first captured
          split at he
          · rename_i fn hfn
            obtain ⟨hen, hso⟩ := hF gid fn hfn
            generalize hz : a.eval f = z at hgv
            cases hgv with
            | func _ _ fy _ cy hs1 hv1 hs2 hv2 =>
              obtain ⟨_, hcall⟩ := hso _ _ _ _ he
              have hrun := call_run (P := P) (w := w) ho rfl hz hen
              refine exec_ok hrun ?_
              show Calls P gid _ w _
              have hlr : LR R (first.toList ++ vs ++ captured.toList) (fy ++ args.map a.eval ++ cy).toList := by
                rw [Array.toList_append, Array.toList_append, Array.toList_map]
                exact ((LR.ofArr hs1 hv1).append hl).append (LR.ofArr hs2 hv2)
              refine (hcall R w _ hr hlr hfr).mono fun e w' ⟨v', R', hee, hst, hvv⟩ => ?_
              subst hee
              exact hnext v' w' R' hst (.inr hvv)
          · cases he
        · cases he
      · cases he
  | _ => rw [ho] at he; simp [aOp] at he
end
end
end Go.Ab
