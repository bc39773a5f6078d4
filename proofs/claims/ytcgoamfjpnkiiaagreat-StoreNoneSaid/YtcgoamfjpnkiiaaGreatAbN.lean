/- Regions without a drawn order, and code, over an abstract heap. Conditions: none. -/
import Derived.Test.YtcgoamfjpnkiiaaGreatAbM
set_option linter.all false
namespace Go.Ab
noncomputable section
open Go.RowKit

/-- An operand, by the slots that are known. -/
def evalT (ts : List Value) : Operand → Option Value
  | .tmp t => match ts[t]? with
    | some v => cond (isUndef v) none (some v)
    | none => none
  | .const v => cond (closedB v) (some v) none
  | .global _ => none
  | .func f => some (.func (.func f) #[] #[])

def putT (ts : List Value) (dst : Option Tmp) (v : Value) : List Value :=
  match dst with
  | some d => ts.set d v
  | none => ts

/-- Is an operation wanted? -/
def wantT (ops : Array Oper) (o : Oper) (ts : List Value) : Option Bool :=
  match o.guard with
  | none => some true
  | some (j, want) => match (ops[j]?).bind (·.dst) with
    | none => none
    | some d => match ts[d]? with
      | some (.bool b) => some (b == want)
      | some (.tuple vs) => cond vs.isEmpty (some false) none
      | _ => none

def evOps (Ty : Types) (F : FunT) (ops : Array Oper) : List Oper → List Value → H → Option (List Value × H)
  | [], ts, h => some (ts, h)
  | o :: rest, ts, h => match wantT ops o ts with
    | some true => match aOp Ty F (evalT ts) o.op h with
      | some (v, h') => evOps Ty F ops rest (putT ts o.dst v) h'
      | none => none
    | some false => evOps Ty F ops rest (putT ts o.dst skipA) h
    | none => none

/-- The slots of a world's frame are those. -/
def TR (R : Ren) (ts : List Value) (tm : Array Value) : Prop := ts.length = tm.size ∧ ∀ (i : Nat) v, ts[i]? = some v → ∃ v', tm[i]? = some v' ∧ KR R v v'

theorem KR.le {R R' : Ren} (hle : R.le R') {v v' : Value} (h : KR R v v') : KR R' v v' := h.imp id (fun h => h.le hle)
theorem TR.le {R R' : Ren} (hle : R.le R') {ts : List Value} {tm : Array Value} (h : TR R ts tm) : TR R' ts tm :=
  ⟨h.1, fun i v hv => let ⟨v', a, b⟩ := h.2 i v hv; ⟨v', a, b.le hle⟩⟩

theorem TR.ev {R : Ren} {ts : List Value} {a : Act} (h : TR R ts a.tmps) : EvR R (evalT ts) a := by
  intro x v hx
  cases x with
  | tmp t =>
    simp only [evalT] at hx
    split at hx
    · rename_i u hu
      obtain ⟨v', h1, h2⟩ := h.2 t u hu
      cases hun : isUndef u with
      | true => rw [hun] at hx; cases hx
      | false =>
        rw [hun] at hx
        cases hx
        rcases h2 with h2 | h2
        · rw [hun] at h2; cases h2
        · have : a.eval (.tmp t) = v' := by simp [Act.eval, Array.getD_eq_getD_getElem?, h1]
          rw [this]; exact h2
    · cases hx
  | const c =>
    simp only [evalT] at hx
    cases hc : closedB c with
    | false => rw [hc] at hx; cases hx
    | true => rw [hc] at hx; cases hx; exact .ofClosed hc
  | global g => cases hx
  | func f =>
    simp only [evalT, Option.some.injEq] at hx
    subst hx
    exact .func _ _ _ _ _ rfl (fun i x y p q => by simp at p) rfl (fun i x y p q => by simp at p)

theorem TR.put {R : Ren} {ts : List Value} {a : Act} (h : TR R ts a.tmps) (dst : Option Tmp) {v v' : Value} (hv : KR R v v') : TR R (putT ts dst v) (a.put dst v').tmps := by
  cases dst with
  | none => exact h
  | some d =>
    refine ⟨by simp [putT, Act.put, h.1], fun i u hu => ?_⟩
    simp only [putT, List.getElem?_set] at hu
    simp only [Act.put, Array.getElem?_setIfInBounds]
    have hl := h.1
    by_cases e : d = i
    · subst e
      rw [if_pos rfl] at hu
      split at hu
      · cases hu; exact ⟨v', by rw [if_pos rfl, if_pos (by omega)], hv⟩
      · cases hu
    · rw [if_neg e] at hu
      rw [if_neg e]
      exact h.2 i u hu

theorem putT_length (ts : List Value) (dst : Option Tmp) (v : Value) : (putT ts dst v).length = ts.length := by cases dst <;> simp [putT]

theorem put_defers (a : Act) (dst : Option Tmp) (v : Value) : (a.put dst v).defers = a.defers := by cases dst <;> rfl

theorem wantT_sound {R : Ren} {ops : Array Oper} {o : Oper} {ts : List Value} {tm : Array Value} {b : Bool} (h : TR R ts tm) (hw : wantT ops o ts = some b) : Region.wanted o (yielded ops tm) = b := by
  unfold wantT at hw
  unfold Region.wanted
  cases hg : o.guard with
  | none => rw [hg] at hw; simp only [Option.some.injEq] at hw; exact hw
  | some p =>
    obtain ⟨j, want⟩ := p
    rw [hg] at hw
    simp only at hw
    split at hw
    · cases hw
    · rename_i d hd
      split at hw
      · rename_i c hc
        simp only [Option.some.injEq] at hw
        obtain ⟨v', h1, h2⟩ := h.2 d _ hc
        have : v' = .bool c := by
          rcases h2 with h2 | h2
          · cases h2
          · cases h2; rfl
        subst this
        have hy : yielded ops tm j = some c := by simp [yielded, hd, h1]
        simp [hy, hw]
      · rename_i vs hc
        cases hv : vs.isEmpty with
        | false => rw [hv] at hw; cases hw
        | true =>
          rw [hv] at hw
          cases hw
          have hvs : vs = #[] := Array.isEmpty_iff.1 hv
          subst hvs
          obtain ⟨v', h1, h2⟩ := h.2 d _ hc
          have : ∃ us, v' = .tuple us := by
            rcases h2 with h2 | h2
            · cases h2
            · cases h2; exact ⟨_, rfl⟩
          obtain ⟨us, rfl⟩ := this
          have hy : yielded ops tm j = none := by simp [yielded, hd, h1]
          simp [hy]
      · cases hw

section
variable {P : Program} {Ty : Types} {F : FunT}

theorem evOps_Q (hF : QT F) {ops : Array Oper} : ∀ (l : List Oper) (ts ts' : List Value) (h h' : H), evOps Ty F ops l ts h = some (ts', h') → Wf h → Q h h'
  | [], ts, ts', h, h', he, hW => by simp only [evOps, Option.some.injEq, Prod.mk.injEq] at he; rw [← he.2]; exact Q.refl _
  | o :: l, ts, ts', h, h', he, hW => by
    simp only [evOps] at he
    split at he
    · split at he
      · rename_i v h1 ho
        have q1 := aOp_Q hF hW ho
        exact q1.trans (evOps_Q hF l _ _ _ _ he (q1.dom hW))
      · cases he
    · exact evOps_Q hF l _ _ _ _ he hW
    · cases he

theorem evOps_wp (hT : TyOk P Ty) (hF : SoundT P F) {ops : Array Oper} {Q' : Exit → Act → World → Prop} : ∀ (l : List Oper) (k : Nat) (ts ts' : List Value) (h h' : H) (R : Ren) (w : World) (a : Act),
    (∀ i, l[i]? = ops[k + i]?) → evOps Ty F ops l ts h = some (ts', h') → Rel h R w → TR R ts a.tmps → a.defers = [] → (∀ id, h.n ≤ id → id < h'.n → R id = none) →
    (∀ a' w' R', Step h R w h' R' w' → TR R' ts' a'.tmps → a'.defers = [] → Q' .normal a' w') → wpOps P ops Q' (List.range' k l.length) a w
  | [], k, ts, ts', h, h', R, w, a, hl, he, hr, ht, hd, hfr, hq => by
    simp only [evOps, Option.some.injEq, Prod.mk.injEq] at he
    obtain ⟨rfl, rfl⟩ := he
    exact hq a w R (Step.refl hr) ht hd
  | o :: l, k, ts, ts', h, h', R, w, a, hl, he, hr, ht, hd, hfr, hq => by
    have ho : ops[k]? = some o := by have := hl 0; simpa using this.symm
    have hl' : ∀ i, l[i]? = ops[k + 1 + i]? := fun i => by have := hl (i + 1); rw [show k + 1 + i = k + (i + 1) by omega]; simpa using this
    simp only [evOps] at he
    rw [List.length_cons, List.range'_succ]
    simp only [wpOps, ho]
    split at he
    · rename_i hw
      rw [if_pos (wantT_sound ht hw)]
      split at he
      · rename_i v h1 hop
        have q1 := aOp_Q hF.q hr.wf hop
        have q2 := evOps_Q hF.q l _ _ _ _ he (q1.dom hr.wf)
        refine .inl (aOp_wp hT hF hop hr ht.ev (fun id h1 h2 => hfr id h1 (Nat.lt_of_lt_of_le h2 q2.n)) fun v' w' R' hst hv => ?_)
        refine evOps_wp hT hF l (k + 1) _ ts' h1 h' R' w' _ hl' he hst.rel ((ht.le hst.le).put _ hv) (by rw [put_defers]; exact hd) (fun id i1 i2 => ?_) (fun a' w2 R2 hst2 ht2 hd2 => hq a' w2 R2 (hst.trans hst2) ht2 hd2)
        cases hR : R' id with
        | none => rfl
        | some x =>
          exfalso
          have h0 := hfr id (Nat.le_trans q1.n i1) i2
          have := (hst.fresh id h0 (by rw [hR]; simp)).2
          omega
      · cases he
    · rename_i hw
      have hwf := wantT_sound ht hw
      rw [if_neg (by rw [hwf]; simp)]
      exact evOps_wp hT hF l (k + 1) _ ts' h h' R w _ hl' he hr (ht.put _ (.inr .skip)) (by rw [put_defers]; exact hd) hfr hq
    · cases he
end

inductive AOut where
  | normal | ret | exit (id : Nat) | goto (l : Nat)

def AOut.toExit : AOut → Exit
  | .normal => .normal
  | .ret => .ret
  | .exit id => .exit id
  | .goto l => .goto l

abbrev Sta := List Value × H

/-- A drawn region's meaning is given from outside (a later text). -/
abbrev DrawT := Nat → Array Oper → Sta → Option Sta

/-- Forget slots. -/
def maskT : List Bool → List Value → List Value
  | [], ts => ts
  | _, [] => []
  | b :: bs, v :: ts => cond b v undefA :: maskT bs ts

def firstReg : Code → Option Nat
  | .region id _ _ => some id
  | .seq a b => match firstReg a with
    | some i => some i
    | none => firstReg b
  | .cond _ t e => match firstReg t with
    | some i => some i
    | none => firstReg e
  | .block _ c | .loop c | .scope c => firstReg c
  | _ => none

/-- What is to be kept at a loop's head, by the first region in it; at a goto, by the label (from 1000000 on). -/
abbrev Ann := Nat → List Bool

def maskS (m : List Bool) (s : Sta) : Sta := (maskT m s.1, s.2)

def loopN (step : Sta → Option (AOut × Sta)) (m : List Bool) : Nat → Sta → Option (AOut × Sta)
  | 0, _ => none
  | n + 1, s => match step (maskS m s) with
    | some (.normal, s') => loopN step m n s'
    | r => r

def scopeN (run : Code → Sta → Option (AOut × Sta)) (ann : Ann) (body : Code) : Nat → Code → Sta → Option (AOut × Sta)
  | 0, _, _ => none
  | n + 1, cur, s => match run cur s with
    | some (.goto l, s') => match findLabel body l with
      | some rest => scopeN run ann body n rest (maskS (ann (1000000 + l)) s')
      | none => some (.goto l, s')
    | r => r

def evC (Ty : Types) (F : FunT) (D : DrawT) (ann : Ann) (N : Nat) : Nat → Code → Sta → Option (AOut × Sta)
  | 0, _, _ => none
  | f + 1, c, s => match c with
    | .skip | .label _ => some (.normal, s)
    | .ret => some (.ret, s)
    | .exit id => some (.exit id, s)
    | .goto l => some (.goto l, s)
    | .region id ops false => match evOps Ty F ops ops.toList s.1 s.2 with
      | some s' => some (.normal, s')
      | none => none
    | .region id ops true => match D id ops s with
      | some s' => some (.normal, s')
      | none => none
    | .seq a b => match evC Ty F D ann N f a s with
      | some (.normal, s') => evC Ty F D ann N f b s'
      | r => r
    | .cond c t e => match evalT s.1 c with
      | some (.bool b) => evC Ty F D ann N f (cond b t e) s
      | _ => none
    | .block id c => match evC Ty F D ann N f c s with
      | some (.exit id', s') => cond (Nat.beq id' id) (some (.normal, s')) (some (.exit id', s'))
      | r => r
    | .loop c => loopN (evC Ty F D ann N f c) (ann ((firstReg c).getD 0)) N s
    | .scope c => scopeN (evC Ty F D ann N f) ann c N c s
    | _ => none

theorem TR.mask {R : Ren} : ∀ (m : List Bool) (ts : List Value) (tm : Array Value), TR R ts tm → TR R (maskT m ts) tm := by
  have key : ∀ (m : List Bool) (ts : List Value), (maskT m ts).length = ts.length ∧ ∀ (i : Nat) v, (maskT m ts)[i]? = some v → ts[i]? = some v ∨ (v = undefA ∧ ∃ u, ts[i]? = some u) := by
    intro m
    induction m with
    | nil => intro ts; exact ⟨rfl, fun i v h => .inl h⟩
    | cons b bs ih =>
      intro ts
      cases ts with
      | nil => exact ⟨rfl, fun i v h => .inl h⟩
      | cons u ts =>
        refine ⟨by simp [maskT, (ih ts).1], fun i v h => ?_⟩
        cases i with
        | zero =>
          simp only [maskT, List.getElem?_cons_zero, Option.some.injEq] at h
          cases b
          · exact .inr ⟨h.symm, u, rfl⟩
          · exact .inl (by simpa using h)
        | succ i => simpa using (ih ts).2 i v (by simpa [maskT] using h)
  intro m ts tm h
  refine ⟨by rw [(key m ts).1]; exact h.1, fun i v hv => ?_⟩
  rcases (key m ts).2 i v hv with h1 | ⟨rfl, u, hu⟩
  · exact h.2 i v h1
  · obtain ⟨v', a, _⟩ := h.2 i u hu
    exact ⟨v', a, .inl rfl⟩

/-- What a drawn region's meaning owes. -/
def SoundD (P : Program) (D : DrawT) : Prop := ∀ id ops s s', D id ops s = some s' → (Wf s.2 → Q s.2 s'.2) ∧ ∀ (R : Ren) (w : World) (a : Act) (Q' : Exit → Act → World → Prop), Rel s.2 R w → TR R s.1 a.tmps → a.defers = [] →
    (∀ k, s.2.n ≤ k → k < s'.2.n → R k = none) → (∀ a' w' R', Step s.2 R w s'.2 R' w' → TR R' s'.1 a'.tmps → a'.defers = [] → Q' .normal a' w') → (Code.region id ops true).wp P Q' a w

/-- A scope, pass by pass. -/
def scopeR (P : Program) (body : Code) (Q' : Exit → Act → World → Prop) : Nat → Code → Act → World → Prop
  | 0, _, _, _ => False
  | n + 1, cur, a, w => cur.wp P (fun e a' w' => match e with
      | .goto l => match findLabel body l with
        | some rest => scopeR P body Q' n rest a' w'
        | none => Q' (.goto l) a' w'
      | e => Q' e a' w') a w

theorem wp_scopeR {P : Program} {body : Code} {Q' : Exit → Act → World → Prop} {a : Act} {w : World} (n : Nat) (h : scopeR P body Q' n body a w) : (Code.scope body).wp P Q' a w := by
  intro b k cs
  have key : ∀ n cur a w, scopeR P body Q' n cur a w → ∃ e a' w', Q' e a' w' ∧ Arrives P (lone (b.at a (.code cur :: .inScope body :: k)) cs w) b k cs e a' w' := by
    intro n
    induction n with
    | zero => intro cur a w h; exact h.elim
    | succ n ih =>
      intro cur a w h
      obtain ⟨e, a₁, w₁, hq, harr⟩ := h b (.inScope body :: k) cs
      cases e with
      | normal => exact ⟨.normal, a₁, w₁, hq, Steps.trans harr (.one step_inScope)⟩
      | exit id => exact ⟨.exit id, a₁, w₁, hq, fun k' hk => harr k' (by simp [exitTo, hk])⟩
      | goto l =>
        simp only at hq
        cases hf : findLabel body l with
        | none =>
          rw [hf] at hq
          exact ⟨.goto l, a₁, w₁, hq, fun k' hk => harr k' (by simp [gotoIn, hf, hk])⟩
        | some rest =>
          rw [hf] at hq
          obtain ⟨e₂, a₂, w₂, hq₂, harr₂⟩ := ih rest a₁ w₁ hq
          exact ⟨e₂, a₂, w₂, hq₂, .of_steps (harr _ (by simp [gotoIn, hf])) harr₂⟩
      | ret => exact ⟨_, a₁, w₁, hq, harr⟩
      | panic ch => exact ⟨_, a₁, w₁, hq, harr⟩
      | outgrown => exact ⟨_, a₁, w₁, hq, harr⟩
  obtain ⟨e, a', w', hq, harr⟩ := key n body a w h
  exact ⟨e, a', w', hq, .of_steps (.one step_scope) harr⟩

section
variable {P : Program} {Ty : Types} {F : FunT} {D : DrawT} {ann : Ann} {N : Nat}

theorem loopN_Q {step : Sta → Option (AOut × Sta)} {m : List Bool} (hs : ∀ s o s', step s = some (o, s') → Wf s.2 → Q s.2 s'.2) : ∀ (n : Nat) (s : Sta) (o : AOut) (s' : Sta), loopN step m n s = some (o, s') → Wf s.2 → Q s.2 s'.2
  | 0, s, o, s', h, _ => by cases h
  | n + 1, s, o, s', h, hW => by
    simp only [loopN] at h
    cases hst : step (maskS m s) with
    | none => rw [hst] at h; cases h
    | some p =>
      obtain ⟨o1, s1⟩ := p
      have q1 : Q s.2 s1.2 := hs (maskS m s) o1 s1 hst hW
      rw [hst] at h
      cases o1 with
      | normal => exact q1.trans (loopN_Q hs n s1 o s' h (q1.dom hW))
      | _ => cases h; exact q1

theorem scopeN_Q {run : Code → Sta → Option (AOut × Sta)} {body : Code} (hs : ∀ c s o s', run c s = some (o, s') → Wf s.2 → Q s.2 s'.2) : ∀ (n : Nat) (cur : Code) (s : Sta) (o : AOut) (s' : Sta), scopeN run ann body n cur s = some (o, s') → Wf s.2 → Q s.2 s'.2
  | 0, cur, s, o, s', h, _ => by cases h
  | n + 1, cur, s, o, s', h, hW => by
    simp only [scopeN] at h
    cases hst : run cur s with
    | none => rw [hst] at h; cases h
    | some p =>
      obtain ⟨o1, s1⟩ := p
      have q1 := hs _ _ _ _ hst hW
      rw [hst] at h
      cases o1 with
      | goto l =>
        simp only at h
        cases hf : findLabel body l with
        | none => rw [hf] at h; cases h; exact q1
        | some rest => rw [hf] at h; exact q1.trans (scopeN_Q hs n rest (maskS (ann (1000000 + l)) s1) o s' h (q1.dom hW))
      | _ => cases h; exact q1

theorem evC_Q (hF : QT F) (hD : ∀ id ops s s', D id ops s = some s' → Wf s.2 → Q s.2 s'.2) : ∀ (f : Nat) (c : Code) (s : Sta) (o : AOut) (s' : Sta), evC Ty F D ann N f c s = some (o, s') → Wf s.2 → Q s.2 s'.2
  | 0, c, s, o, s', h, _ => by cases h
  | f + 1, c, s, o, s', h, hW => by
    have ih := evC_Q hF hD f
    unfold evC at h
    split at h
    · cases h; exact Q.refl _
    · cases h; exact Q.refl _
    · cases h; exact Q.refl _
    · cases h; exact Q.refl _
    · cases h; exact Q.refl _
    · split at h
      · rename_i he; cases h; exact evOps_Q hF _ _ _ _ _ he hW
      · cases h
    · split at h
      · rename_i he; cases h; exact hD _ _ _ _ he hW
      · cases h
    · split at h
      · rename_i he; have q1 := ih _ _ _ _ he hW; exact q1.trans (ih _ _ _ _ h (q1.dom hW))
      · exact ih _ _ _ _ h hW
    · split at h
      · exact ih _ _ _ _ h hW
      · cases h
    · split at h
      · rename_i he
        rcases condQ h with ⟨_, h⟩ | ⟨_, h⟩ <;> cases h <;> exact ih _ _ _ _ he hW
      · exact ih _ _ _ _ h hW
    · exact loopN_Q (fun s o s' hh => ih _ s o s' hh) N _ _ _ h hW
    · exact scopeN_Q (fun c s o s' hh => ih c s o s' hh) N _ _ _ _ h hW
    · cases h

theorem fresh_after {h h1 h' : H} {R R' : Ren} {w w' : World} (hst : Step h R w h1 R' w') (q1 : Q h h1) (hfr : ∀ id, h.n ≤ id → id < h'.n → R id = none) : ∀ id, h1.n ≤ id → id < h'.n → R' id = none := by
  intro id i1 i2
  cases hR : R' id with
  | none => rfl
  | some x =>
    exfalso
    have h0 := hfr id (Nat.le_trans q1.n i1) i2
    have := (hst.fresh id h0 (by rw [hR]; simp)).2
    omega

/-- What a piece of code owes. -/
def SoundC (P : Program) (c : Code) (s : Sta) (o : AOut) (s' : Sta) : Prop := ∀ (R : Ren) (w : World) (a : Act) (Q' : Exit → Act → World → Prop), Rel s.2 R w → TR R s.1 a.tmps → a.defers = [] →
    (∀ k, s.2.n ≤ k → k < s'.2.n → R k = none) → (∀ a' w' R', Step s.2 R w s'.2 R' w' → TR R' s'.1 a'.tmps → a'.defers = [] → Q' o.toExit a' w') → c.wp P Q' a w

theorem loopN_sound {c : Code} {step : Sta → Option (AOut × Sta)} {m : List Bool} (hq : ∀ s o s', step s = some (o, s') → Wf s.2 → Q s.2 s'.2) (hs : ∀ s o s', step s = some (o, s') → SoundC P c s o s') :
    ∀ (n : Nat) (s : Sta) (o : AOut) (s' : Sta), loopN step m n s = some (o, s') → ∀ (R : Ren) (w : World) (a : Act) (Q' : Exit → Act → World → Prop), Rel s.2 R w → TR R s.1 a.tmps → a.defers = [] →
    (∀ k, s.2.n ≤ k → k < s'.2.n → R k = none) → (∀ a' w' R', Step s.2 R w s'.2 R' w' → TR R' s'.1 a'.tmps → a'.defers = [] → Q' o.toExit a' w') → Code.rounds P c Q' n a w
  | 0, s, o, s', h => by cases h
  | n + 1, s, o, s', h => by
    intro R w a Q' hr ht hd hfr hq'
    simp only [loopN] at h
    cases hst : step (maskS m s) with
    | none => rw [hst] at h; cases h
    | some p =>
      obtain ⟨o1, s1⟩ := p
      have q1 : Q s.2 s1.2 := hq (maskS m s) o1 s1 hst hr.wf
      rw [hst] at h
      have hc := hs _ _ _ hst
      cases o1 with
      | normal =>
        have q2 := loopN_Q hq n s1 o s' h (q1.dom hr.wf)
        refine hc R w a _ hr (TR.mask _ _ _ ht) hd (fun k k1 k2 => hfr k k1 (Nat.lt_of_lt_of_le k2 q2.n)) fun a' w' R' hst1 ht1 hd1 => ?_
        exact loopN_sound hq hs n s1 o s' h R' w' a' Q' hst1.rel ht1 hd1 (fresh_after hst1 q1 hfr) fun a2 w2 R2 hst2 ht2 hd2 => hq' a2 w2 R2 (hst1.trans hst2) ht2 hd2
      | ret => cases h; exact hc R w a _ hr (TR.mask _ _ _ ht) hd hfr fun a' w' R' hst1 ht1 hd1 => hq' a' w' R' hst1 ht1 hd1
      | exit id => cases h; exact hc R w a _ hr (TR.mask _ _ _ ht) hd hfr fun a' w' R' hst1 ht1 hd1 => hq' a' w' R' hst1 ht1 hd1
      | goto l => cases h; exact hc R w a _ hr (TR.mask _ _ _ ht) hd hfr fun a' w' R' hst1 ht1 hd1 => hq' a' w' R' hst1 ht1 hd1

theorem scopeN_sound {run : Code → Sta → Option (AOut × Sta)} {body : Code} (hq : ∀ c s o s', run c s = some (o, s') → Wf s.2 → Q s.2 s'.2) (hs : ∀ c s o s', run c s = some (o, s') → SoundC P c s o s') :
    ∀ (n : Nat) (cur : Code) (s : Sta) (o : AOut) (s' : Sta), scopeN run ann body n cur s = some (o, s') → ∀ (R : Ren) (w : World) (a : Act) (Q' : Exit → Act → World → Prop), Rel s.2 R w → TR R s.1 a.tmps → a.defers = [] →
    (∀ k, s.2.n ≤ k → k < s'.2.n → R k = none) → (∀ a' w' R', Step s.2 R w s'.2 R' w' → TR R' s'.1 a'.tmps → a'.defers = [] → Q' o.toExit a' w') → scopeR P body Q' n cur a w
  | 0, cur, s, o, s', h => by cases h
  | n + 1, cur, s, o, s', h => by
    intro R w a Q' hr ht hd hfr hq'
    simp only [scopeN] at h
    cases hst : run cur s with
    | none => rw [hst] at h; cases h
    | some p =>
      obtain ⟨o1, s1⟩ := p
      have q1 := hq _ _ _ _ hst hr.wf
      rw [hst] at h
      have hc := hs _ _ _ _ hst
      cases o1 with
      | goto l =>
        simp only at h
        cases hf : findLabel body l with
        | none =>
          rw [hf] at h
          cases h
          refine hc R w a _ hr ht hd hfr fun a' w' R' hst1 ht1 hd1 => ?_
          show match findLabel body l with
            | some rest => scopeR P body Q' n rest a' w'
            | none => Q' (.goto l) a' w'
          rw [hf]
          exact hq' a' w' R' hst1 ht1 hd1
        | some rest =>
          rw [hf] at h
          have q2 : Q s1.2 s'.2 := scopeN_Q hq n rest (maskS (ann (1000000 + l)) s1) o s' h (q1.dom hr.wf)
          refine hc R w a _ hr ht hd (fun k k1 k2 => hfr k k1 (Nat.lt_of_lt_of_le k2 q2.n)) fun a' w' R' hst1 ht1 hd1 => ?_
          show match findLabel body l with
            | some rest => scopeR P body Q' n rest a' w'
            | none => Q' (.goto l) a' w'
          rw [hf]
          exact scopeN_sound hq hs n rest (maskS (ann (1000000 + l)) s1) o s' h R' w' a' Q' hst1.rel (TR.mask _ _ _ ht1) hd1 (fresh_after hst1 q1 hfr) fun a2 w2 R2 hst2 ht2 hd2 => hq' a2 w2 R2 (hst1.trans hst2) ht2 hd2
      | ret => cases h; exact hc R w a _ hr ht hd hfr fun a' w' R' hst1 ht1 hd1 => hq' a' w' R' hst1 ht1 hd1
      | exit id => cases h; exact hc R w a _ hr ht hd hfr fun a' w' R' hst1 ht1 hd1 => hq' a' w' R' hst1 ht1 hd1
      | normal => cases h; exact hc R w a _ hr ht hd hfr fun a' w' R' hst1 ht1 hd1 => hq' a' w' R' hst1 ht1 hd1

theorem evC_sound (hT : TyOk P Ty) (hF : SoundT P F) (hD : SoundD P D) : ∀ (f : Nat) (c : Code) (s : Sta) (o : AOut) (s' : Sta), evC Ty F D ann N f c s = some (o, s') → SoundC P c s o s'
  | 0, c, s, o, s', h => by cases h
  | f + 1, c, s, o, s', h => by
    have hDq := fun id ops s s' hh => (hD id ops s s' hh).1
    have ih := evC_sound hT hF hD f
    have ihq := fun c s o s' hh => evC_Q (Ty := Ty) (ann := ann) (N := N) hF.q hDq f c s o s' hh
    intro R w a Q' hr ht hd hfr hq
    unfold evC at h
    split at h
    · cases h; exact wp_skip (hq a w R (Step.refl hr) ht hd)
    · cases h; exact wp_label (hq a w R (Step.refl hr) ht hd)
    · cases h; exact wp_ret (hq a w R (Step.refl hr) ht hd)
    · cases h; exact wp_exit (hq a w R (Step.refl hr) ht hd)
    · cases h; exact wp_goto (hq a w R (Step.refl hr) ht hd)
    · rename_i id ops
      split at h
      · rename_i s1 he
        cases h
        refine wp_region ?_
        rw [List.range_eq_range', ← Array.length_toList]
        exact evOps_wp hT hF _ 0 _ _ _ _ R w a (fun i => by simp) he hr ht hd hfr hq
      · cases h
    · rename_i id ops
      split at h
      · rename_i s1 he
        cases h
        exact (hD _ _ _ _ he).2 R w a Q' hr ht hd hfr hq
      · cases h
    · rename_i x y
      refine wp_seq ?_
      cases he : evC Ty F D ann N f x s with
      | none => rw [he] at h; cases h
      | some p =>
        obtain ⟨o1, s1⟩ := p
        rw [he] at h
        have q1 := ihq _ _ _ _ he hr.wf
        cases o1 with
        | normal =>
          have q2 := ihq _ _ _ _ h (q1.dom hr.wf)
          refine ih _ _ _ _ he R w a _ hr ht hd (fun k k1 k2 => hfr k k1 (Nat.lt_of_lt_of_le k2 q2.n)) fun a' w' R' hst1 ht1 hd1 => ?_
          exact ih _ _ _ _ h R' w' a' Q' hst1.rel ht1 hd1 (fresh_after hst1 q1 hfr) fun a2 w2 R2 hst2 ht2 hd2 => hq a2 w2 R2 (hst1.trans hst2) ht2 hd2
        | ret => cases h; exact ih _ _ _ _ he R w a _ hr ht hd hfr hq
        | exit id => cases h; exact ih _ _ _ _ he R w a _ hr ht hd hfr hq
        | goto l => cases h; exact ih _ _ _ _ he R w a _ hr ht hd hfr hq
    · rename_i cnd x y
      split at h
      · rename_i b hb
        have hv := ht.ev _ _ hb
        have hce : a.eval cnd = .bool b := by generalize a.eval cnd = z at hv; cases hv; rfl
        refine wp_cond hce ?_
        have := ih _ _ _ _ h R w a Q' hr ht hd hfr hq
        cases b <;> simpa using this
      · cases h
    · rename_i id x
      refine wp_block ?_
      cases he : evC Ty F D ann N f x s with
      | none => rw [he] at h; cases h
      | some p =>
        obtain ⟨o1, s1⟩ := p
        rw [he] at h
        cases o1 with
        | exit id' =>
          simp only at h
          cases hb : Nat.beq id' id with
          | true =>
            rw [hb] at h
            cases h
            have e := Nat.eq_of_beq_eq_true hb
            refine ih _ _ _ _ he R w a _ hr ht hd hfr fun a' w' R' hst1 ht1 hd1 => ?_
            show if id' = id then _ else _
            rw [if_pos e]
            exact hq a' w' R' hst1 ht1 hd1
          | false =>
            rw [hb] at h
            cases h
            have e : ¬ id' = id := by intro e; subst e; simp at hb
            refine ih _ _ _ _ he R w a _ hr ht hd hfr fun a' w' R' hst1 ht1 hd1 => ?_
            show if id' = id then _ else _
            rw [if_neg e]
            exact hq a' w' R' hst1 ht1 hd1
        | normal => cases h; exact ih _ _ _ _ he R w a _ hr ht hd hfr hq
        | ret => cases h; exact ih _ _ _ _ he R w a _ hr ht hd hfr hq
        | goto l => cases h; exact ih _ _ _ _ he R w a _ hr ht hd hfr hq
    · exact wp_loop_rounds N (loopN_sound (fun s o s' hh => ihq _ s o s' hh) (fun s o s' hh => ih _ s o s' hh) N _ _ _ h R w a Q' hr ht hd hfr hq)
    · exact wp_scopeR N (scopeN_sound (fun c s o s' hh => ihq c s o s' hh) (fun c s o s' hh => ih c s o s' hh) N _ _ _ _ h R w a Q' hr ht hd hfr hq)
    · cases h
end
end
end Go.Ab
