/- copy, conversions between strings and bytes, lengths, the small builtins, over an abstract heap. Conditions: none. -/
import Derived.Test.YtcgoamfjpnkiiaaGreatAbH
set_option linter.all false
namespace Go.Ab
noncomputable section
open Go.RowKit

def aLen (Ty : Types) (h : H) (t : TypeId) (x : Value) : Option Value :=
  match Ty t with
  | none => none
  | some i => match i.d, x with
    | .string, .string s => some (.int .i64 s.size)
    | .array n _, _ => some (.int .i64 n)
    | .pointer a, _ => match Ty a with
      | some { d := .array n _, .. } => some (.int .i64 n)
      | _ => none
    | .slice _, .slice _ n _ => some (.int .i64 n)
    | .map _ _, .map none => some (.int .i64 0)
    | .map _ _, .map (some id) => match h.get id with
      | some (.map es _ _) => some (.int .i64 es.length)
      | _ => none
    | _, _ => none

def aCap (Ty : Types) (t : TypeId) (x : Value) : Option Value :=
  match Ty t, x with
  | some { d := .slice _, .. }, .slice _ _ c => cond (Nat.blt c UNK) (some (.int .i64 c)) none
  | _, _ => none

def aMax2 (x y : Value) : Option Value :=
  match x, y with
  | .int k a, .int _ b => some (.int k (if b > a then b else a))
  | .float k a, .float _ b => match k.format.order a b with
    | some .lt => some (.float k b)
    | some .gt => some (.float k a)
    | some .eq => some (.float k (if (k.decode a).neg then b else a))
    | none => none
  | _, _ => none

def aMin2 (x y : Value) : Option Value :=
  match x, y with
  | .int k a, .int _ b => some (.int k (if b < a then b else a))
  | .float k a, .float _ b => match k.format.order a b with
    | some .lt => some (.float k a)
    | some .gt => some (.float k b)
    | some .eq => some (.float k (if (k.decode a).neg then a else b))
    | none => none
  | _, _ => none

def aComplex (x y : Value) : Option Value :=
  match x, y with
  | .float k a, .float k' b => if k = k' then some (.complex k a b) else none
  | _, _ => none
def aReal (x : Value) : Option Value :=
  match x with
  | .complex k a _ => some (.float k a)
  | _ => none
def aImag (x : Value) : Option Value :=
  match x with
  | .complex k _ b => some (.float k b)
  | _ => none

def toBytes : List Value → Option (List UInt8)
  | [] => some []
  | .int .u8 n :: cs => match toBytes cs with
    | some l => some (UInt8.ofNat n.toNat :: l)
    | none => none
  | _ :: _ => none

/-- Bytes as a string, a string as bytes. -/
def aStrBytes (Ty : Types) (h : H) (src dst : TypeId) (x : Value) : Option (Value × H) :=
  match Ty src, Ty dst, x with
  | some { d := .slice e, .. }, some { d := .string, .. }, .slice none _ _ => match Ty e with
    | some { d := .int .u8, .. } => some (.string ⟨#[]⟩, h)
    | _ => none
  | some { d := .slice e, .. }, some { d := .string, .. }, .slice (some ⟨id, off, none⟩) len _ => match Ty e with
    | some { d := .int .u8, .. } => cond (Nat.beq len 0) (some (.string ⟨#[]⟩, h)) (match h.seg id off len with
      | some cs => match toBytes cs with
        | some l => some (.string ⟨l.toArray⟩, h)
        | none => none
      | none => none)
    | _ => none
  | some { d := .string, .. }, some { d := .slice e, .. }, .string s => match Ty e with
    | some { d := .int .u8, size := 1, .. } => some (.slice (some ⟨h.n, 0, none⟩) s.size (UNK + 1), h.new (.cells (s.data.toList.map fun b => .int .u8 b.toNat) e false))
    | _ => none
  | some { d := .slice _, .. }, some { d := .slice e, .. }, .slice (some ⟨id, off, none⟩) len cap => match Ty e, h.get id with
    | some { d := .int .u8, .. }, some (.cells _ _ false) => cond (Nat.beq src dst && Nat.blt cap UNK) (some (.slice (some ⟨id, off, none⟩) len cap, h)) none
    | _, _ => none
  | _, _, _ => none

def lenOfA (x : Value) : Option Nat :=
  match x with
  | .slice _ n _ => some n
  | .string s => some s.size
  | _ => none

def firstA (h : H) (size n : Nat) (x : Value) : Option (List Value) :=
  match x with
  | .slice (some ⟨id, off, none⟩) _ _ => h.seg id off (n * size)
  | .string s => some ((s.data.toList.take n).map fun b => .int .u8 b.toNat)
  | _ => none

def aCopy (Ty : Types) (h : H) (t0 : TypeId) (dst src : Value) : Option (Value × H) :=
  match Ty t0, dst, lenOfA src with
  | some { d := .slice e, .. }, .slice base dLen _, some sLen => match Ty e with
    | none => none
    | some ie => cond (Nat.beq (Nat.min sLen dLen) 0) (some (.int .i64 0, h)) (match base, firstA h ie.size (Nat.min sLen dLen) src with
      | some ⟨id, off, none⟩, some vs => match h.write id off vs with
        | some h' => some (.int .i64 (Nat.min sLen dLen), h')
        | none => none
      | _, _ => none)
  | _, _, _ => none

section
variable {P : Program} {Ty : Types} {h : H} {R : Ren} {w : World}

theorem aLen_sound (hT : TyOk P Ty) (hr : Rel h R w) {t ty : TypeId} {x x' v : Value} (he : aLen Ty h t x = some v) (hx : VR R x x') : (Builtin.len_ #[t] ty #[x']).run P w = .ok v w ∧ closedS v = true := by
  unfold aLen at he
  cases ht : Ty t with
  | none => rw [ht] at he; cases he
  | some i =>
    rw [ht] at he
    obtain ⟨D, hD, hok⟩ := (hT t i ht).und
    simp only at he
    cases hd : i.d <;> rw [hd] at he hok <;> cases D <;> simp only [TD.ok] at hok
    case string.string => cases hx <;> simp only [reduceCtorEq, Option.some.injEq] at he <;> subst he <;> simp [Builtin.len_, run_underlying hD, goInt, closedS]
    case array.array =>
      obtain ⟨rfl, rfl⟩ := hok
      simp only [Option.some.injEq] at he
      subst he
      simp [Builtin.len_, run_underlying hD, goInt, closedS]
    case pointer.pointer =>
      subst hok
      simp only at he
      split at he
      · rename_i hta
        cases he
        obtain ⟨D2, hD2, hok2⟩ := (hT _ _ hta).und
        cases D2 <;> simp only [TD.ok] at hok2
        obtain ⟨rfl, rfl⟩ := hok2
        simp [Builtin.len_, run_underlying hD, run_underlying hD2, goInt, closedS]
      · cases he
    case slice.slice => cases hx <;> simp only [reduceCtorEq, Option.some.injEq] at he <;> subst he <;> simp [Builtin.len_, run_underlying hD, goInt, closedS]
    case map.map =>
      cases hx <;> simp only [reduceCtorEq, Option.some.injEq] at he
      · subst he; simp [Builtin.len_, run_underlying hD, goInt, closedS]
      · rename_i id l hl
        split at he
        · rename_i es cl tg hg
          cases he
          obtain ⟨l', es', h1, h2, h3, h4⟩ := hr.obj id _ hg
          rw [hl] at h1; cases h1
          simp [Builtin.len_, run_underlying hD, goInt, closedS, getObj, Sem.run, h2, h3]
        · cases he
    all_goals (cases hx <;> simp at he)

theorem aCap_sound (hT : TyOk P Ty) {t ty : TypeId} {x x' v : Value} (he : aCap Ty t x = some v) (hx : VR R x x') : (Builtin.cap_ #[t] ty #[x']).run P w = .ok v w ∧ closedS v = true := by
  unfold aCap at he
  split at he
  · rename_i e sz bt z fl base n c ht
    obtain ⟨D, hD, hok⟩ := (hT t _ ht).und
    cases D <;> simp only [TD.ok] at hok
    cases hb : Nat.blt c UNK with
    | false => rw [hb] at he; cases he
    | true =>
      rw [hb] at he
      cases he
      have := blt_true hb
      cases hx
      · simp [Builtin.cap_, run_underlying hD, goInt, closedS]
      · simp [Builtin.cap_, run_underlying hD, goInt, closedS]
      · omega
  · cases he

theorem aMax2_sound {x x' y y' v : Value} (he : aMax2 x y = some v) (hx : VR R x x') (hy : VR R y y') : (Builtin.max2 x' y').run P w = .ok v w ∧ closedS v = true := by
  unfold aMax2 at he
  split at he
  · cases hx; cases hy; cases he; simp [Builtin.max2, closedS]
  · cases hx; cases hy
    split at he <;> rename_i ho <;> cases he <;> simp [Builtin.max2, ho, closedS]
  · cases he

theorem aMin2_sound {x x' y y' v : Value} (he : aMin2 x y = some v) (hx : VR R x x') (hy : VR R y y') : (Builtin.min2 x' y').run P w = .ok v w ∧ closedS v = true := by
  unfold aMin2 at he
  split at he
  · cases hx; cases hy; cases he; simp [Builtin.min2, closedS]
  · cases hx; cases hy
    split at he <;> rename_i ho <;> cases he <;> simp [Builtin.min2, ho, closedS]
  · cases he

theorem aComplex_sound {ts : Array TypeId} {ty : TypeId} {x x' y y' v : Value} (he : aComplex x y = some v) (hx : VR R x x') (hy : VR R y y') : (Builtin.complex_ ts ty #[x', y']).run P w = .ok v w ∧ closedS v = true := by
  unfold aComplex at he
  split at he
  · cases hx; cases hy
    split at he
    · rename_i hk; subst hk; cases he; exact ⟨by show Sem.run P (if _ = _ then pure _ else stuck _) w = _; rw [if_pos rfl]; rfl, rfl⟩
    · cases he
  · cases he

theorem aReal_sound {ts : Array TypeId} {ty : TypeId} {x x' v : Value} (he : aReal x = some v) (hx : VR R x x') : (Builtin.real_ ts ty #[x']).run P w = .ok v w ∧ closedS v = true := by
  unfold aReal at he
  split at he
  · cases hx; cases he; exact ⟨rfl, rfl⟩
  · cases he

theorem aImag_sound {ts : Array TypeId} {ty : TypeId} {x x' v : Value} (he : aImag x = some v) (hx : VR R x x') : (Builtin.imag_ ts ty #[x']).run P w = .ok v w ∧ closedS v = true := by
  unfold aImag at he
  split at he
  · cases hx; cases he; exact ⟨rfl, rfl⟩
  · cases he

theorem toBytes_LR : ∀ (cs us : List Value) (l : List UInt8), toBytes cs = some l → LR R cs us → us.length = l.length ∧ ∀ i : Nat, ∀ v, us[i]? = some v → ∃ n : Int, v = .int .u8 n ∧ l[i]? = some (UInt8.ofNat n.toNat)
  | [], us, l, h, hr => by
    simp only [toBytes, Option.some.injEq] at h
    subst h
    have := hr.1
    refine ⟨by simpa using this.symm, fun i v hv => ?_⟩
    rw [List.getElem?_eq_none (by simp at this; omega)] at hv
    cases hv
  | c :: cs, [], l, h, hr => by simp [LR] at hr
  | c :: cs, u :: us, l, h, hr => by
    have hcu := hr.2 0 c u rfl rfl
    unfold toBytes at h
    split at h
    · rename_i h0; cases h0
    · rename_i n cs' h0
      simp only [List.cons.injEq] at h0
      obtain ⟨rfl, rfl⟩ := h0
      cases hcu
      cases ht : toBytes cs with
      | none => rw [ht] at h; cases h
      | some l' =>
        rw [ht] at h
        cases h
        obtain ⟨h1, h2⟩ := toBytes_LR cs us l' ht ⟨by simpa using hr.1, fun i x y a b => hr.2 (i + 1) x y (by simpa using a) (by simpa using b)⟩
        refine ⟨by simp [h1], fun i v hv => ?_⟩
        cases i with
        | zero => simp only [List.getElem?_cons_zero, Option.some.injEq] at hv; subst hv; exact ⟨n, rfl, rfl⟩
        | succ i => simpa using h2 i v (by simpa using hv)
    · cases h

theorem pushLoop (P : Program) (w : World) (f : Value → ByteArray → Sem (ForInStep ByteArray)) (hf : ∀ (n : Int) (r : ByteArray), f (.int .u8 n) r = pure (.yield (r.push (UInt8.ofNat n.toNat)))) :
    ∀ (us : List Value) (l : List UInt8) (s : ByteArray), us.length = l.length → (∀ i : Nat, ∀ v, us[i]? = some v → ∃ n : Int, v = .int .u8 n ∧ l[i]? = some (UInt8.ofNat n.toNat)) →
    (forIn us s f).run P w = .ok ⟨(s.data.toList ++ l).toArray⟩ w
  | [], l, s, hl, _ => by
    have : l = [] := by simpa using hl.symm
    subst this
    simp
  | u :: us, [], s, hl, _ => by simp at hl
  | u :: us, b :: l, s, hl, hg => by
    obtain ⟨n, rfl, hb⟩ := hg 0 u rfl
    simp only [List.getElem?_cons_zero, Option.some.injEq] at hb
    subst hb
    have ih := pushLoop P w f hf us l (s.push (UInt8.ofNat n.toNat)) (by simpa using hl) (fun i v hv => by simpa using hg (i + 1) v (by simpa using hv))
    rw [List.forIn_cons, hf]
    simp only [Sem.run_bind, Sem.run_pure, Result.andThen_ok, ih]
    congr 2
    simp [ByteArray.push]

theorem aStrBytes_sound (hT : TyOk P Ty) (hr : Rel h R w) {src dst : TypeId} {x x' v : Value} {h' : H} (hfr : ∀ id, h.n ≤ id → id < h'.n → R id = none) (he : aStrBytes Ty h src dst x = some (v, h')) (hx : VR R x x') :
    ∃ v' w' R', (convert src dst x').run P w = .ok v' w' ∧ Step h R w h' R' w' ∧ VR R' v v' ∧ Q h h' := by
  unfold aStrBytes at he
  split at he
  · rename_i e sz bt z fl sz2 bt2 z2 fl2 l c hs hd
    obtain ⟨D, hD, hok⟩ := (hT src _ hs).und
    obtain ⟨D2, hD2, hok2⟩ := (hT dst _ hd).und
    cases D <;> simp only [TD.ok] at hok
    cases D2 <;> simp only [TD.ok] at hok2
    subst hok
    cases hx
    split at he
    · rename_i he0
      cases he
      obtain ⟨D3, hD3, hok3⟩ := (hT _ _ he0).und
      cases D3 <;> simp only [TD.ok] at hok3
      subst hok3
      exact ⟨.string ⟨#[]⟩, w, R, by simp [convert, run_underlying hD, run_underlying hD2, run_underlying hD3, Conv.bytesToString]; rfl, Step.refl hr, .string _, Q.refl _⟩
    · cases he
  · rename_i e sz bt z fl sz2 bt2 z2 fl2 id off len c hs hd
    obtain ⟨D, hD, hok⟩ := (hT src _ hs).und
    obtain ⟨D2, hD2, hok2⟩ := (hT dst _ hd).und
    cases D <;> simp only [TD.ok] at hok
    cases D2 <;> simp only [TD.ok] at hok2
    subst hok
    split at he
    · rename_i he0
      obtain ⟨D3, hD3, hok3⟩ := (hT _ _ he0).und
      cases D3 <;> simp only [TD.ok] at hok3
      subst hok3
      have gen : ∀ (a : Addr) (cap : Nat) (us : List Value) (l : List UInt8), (loadCells a len).run P w = .ok us.toArray w → us.length = l.length → (∀ i : Nat, ∀ v, us[i]? = some v → ∃ n : Int, v = .int .u8 n ∧ l[i]? = some (UInt8.ofNat n.toNat)) →
          (convert src dst (.slice (some a) len cap)).run P w = .ok (.string ⟨l.toArray⟩) w := by
        intro a cap us l hl hlen hg
        simp only [convert, Sem.run_bind, run_underlying hD, run_underlying hD2, run_underlying hD3, Result.andThen_ok, Conv.bytesToString, hl]
        rw [← Array.forIn_toList, pushLoop P w _ (fun n r => rfl) us l ByteArray.empty hlen hg]
        rfl
      cases hb : Nat.beq len 0 with
      | true =>
        rw [hb] at he
        cases he
        have h0 := Nat.eq_of_beq_eq_true hb
        subst h0
        obtain ⟨a, cap, rfl⟩ : ∃ a cap, x' = .slice (some a) 0 cap := by cases hx <;> exact ⟨_, _, rfl⟩
        exact ⟨_, w, R, gen a cap [] [] (by simp [loadCells, loadCellsFrom]) rfl (fun i v hv => by simp at hv), Step.refl hr, .string _, Q.refl _⟩
      | false =>
        rw [hb] at he
        simp only [cond_false] at he
        have hne : len ≠ 0 := by intro e; subst e; simp at hb
        cases hsg : h.seg id off len with
        | none => rw [hsg] at he; cases he
        | some cs =>
          rw [hsg] at he
          cases htb : toBytes cs with
          | none => simp only [htb] at he; cases he
          | some l =>
            simp only [htb] at he
            cases he
            obtain ⟨lo, hlo, cap, hxe⟩ : ∃ lo, R id = some lo ∧ ∃ cap, x' = .slice (some ⟨lo.blk, lo.off + off, none⟩) len cap := by
              cases hx with
              | slice _ _ _ _ lo hl hc => exact ⟨lo, hl, _, rfl⟩
              | sliceU _ _ _ e0 cap' a lo hl hlc ha =>
                rcases ha with ha | ⟨rfl, ha⟩
                · omega
                · exact ⟨lo, hl, _, rfl⟩
            subst hxe
            obtain ⟨us, h1, h2, h3⟩ := seg_cells hr hsg hlo
            have hrun := run_loadCells_list (P := P) w ⟨lo.blk, lo.off + off, none⟩ us h3
            rw [h2] at hrun
            obtain ⟨g1, g2⟩ := toBytes_LR cs us l htb h1
            exact ⟨_, w, R, gen _ cap us l hrun g1 g2, Step.refl hr, .string _, Q.refl _⟩
    · cases he
  · rename_i sz bt z fl e sz2 bt2 z2 fl2 s hs hd
    obtain ⟨D, hD, hok⟩ := (hT src _ hs).und
    obtain ⟨D2, hD2, hok2⟩ := (hT dst _ hd).und
    cases D <;> simp only [TD.ok] at hok
    cases D2 <;> simp only [TD.ok] at hok2
    subst hok2
    cases hx
    split at he
    · rename_i he0
      cases he
      obtain ⟨D3, hD3, hok3⟩ := (hT _ _ he0).und
      cases D3 <;> simp only [TD.ok] at hok3
      subst hok3
      have hn := hfr h.n (Nat.le_refl _) (by simp)
      have hd1 : Rel h R { w with drawn := w.drawn + 1 } := hr.drawn rfl
      obtain ⟨cap, hcap⟩ : ∃ cap, cap = (Question.appendCap s.size 0 e).cut (w.tape w.drawn (.appendCap s.size 0 e)) := ⟨_, rfl⟩
      have hge : s.size ≤ cap := by rw [hcap]; exact Nat.le_add_right _ _
      have hszm : (s.data.map fun (b : UInt8) => (Value.int .u8 b.toNat)).size = s.size := by simp
      obtain ⟨us, hus⟩ : ∃ us : Array Value, us = (s.data.map fun (b : UInt8) => Value.int .u8 b.toNat) ++ Array.replicate (cap - s.size) (Value.int .u8 0) := ⟨_, rfl⟩
      have husz : us.size = cap := by
        rw [hus, Array.size_append, hszm, Array.size_replicate]; omega
      let w1 : World := { w with drawn := w.drawn + 1, heap := w.heap.push (.cells us e (us.size, us.size + 1)) }
      have hor : OR (R.upd h.n ⟨w.heap.size, 0, us.size⟩) w1 h.n (.cells (s.data.toList.map fun b => .int .u8 b.toNat) e false) := by
        refine ⟨⟨w.heap.size, 0, us.size⟩, us, e, (us.size, us.size + 1), by simp [Ren.upd], by simp [w1], rfl, ?_, ?_, fun _ => ⟨rfl, .inr (Nat.le_refl _)⟩⟩
        · rw [husz, List.length_map]
          have : s.data.toList.length = s.size := by simp
          show 0 + s.data.toList.length ≤ cap
          omega
        · intro i v hi
          rw [List.getElem?_map, Option.map_eq_some_iff] at hi
          obtain ⟨b, hb, rfl⟩ := hi
          refine ⟨.int .u8 b.toNat, ?_, .int _ _⟩
          show us[0 + i]? = _
          have hlt : i < (s.data.map fun (b : UInt8) => (Value.int .u8 b.toNat)).size := by
            rw [hszm]
            rcases Nat.lt_or_ge i s.data.toList.length with h | h
            · have h2 : s.data.toList.length = s.size := by simp
              omega
            · rw [List.getElem?_eq_none h] at hb; cases hb
          rw [hus, Nat.zero_add, Array.getElem?_append_left hlt, Array.getElem?_map]
          rw [Array.getElem?_toList] at hb
          rw [hb]; rfl
      have hstep := step_new (w := { w with drawn := w.drawn + 1 }) hd1 hn (.cells us e (us.size, us.size + 1)) us.size _ hor
      refine ⟨.slice (some ⟨w.heap.size, 0, none⟩) s.size cap, w1, _, ?_, (Step.world (w' := { w with drawn := w.drawn + 1 }) hr rfl rfl rfl rfl).trans hstep, ?_, Q.new⟩
      · have hf : (choose (.appendCap s.size 0 e)).run P w = .ok cap { w with drawn := w.drawn + 1 } := by rw [run_choose, hcap]; rfl
        have hfz : World.freeze { w with drawn := w.drawn + 1, heap := w.heap.push (.cells us e) } { block := w.heap.size, off := us.size } 1 = w1 := by
          simp only [World.freeze, Nat.one_ne_zero, if_false, w1]
          congr 1
          apply Array.ext
          · simp
          · intro i hi1 hi2
            simp only [Array.size_modify, Array.size_push] at hi1
            by_cases hi : i = w.heap.size
            · subst hi; simp [Array.getElem_modify]
            · have hlt : i < w.heap.size := by omega
              rw [Array.getElem_modify, if_neg (by omega), Array.getElem_push_lt hlt, Array.getElem_push_lt hlt]
        have hsh : World.shape? { w with drawn := w.drawn + 1, heap := w.heap.push (.cells us e) } w.heap.size = some (e, us.size) := by simp [World.shape?]
        simp only [convert, Sem.run_bind, run_underlying hD, run_underlying hD2, run_underlying hD3, Result.andThen_ok, Conv.stringToBytes, hf, newRow, run_newObj, Sem.run_pure, markStringish, run_shape]
        rw [← hus, hsh]
        simp only [run_freeze, hfz, Result.andThen_ok]
      · exact .sliceU _ _ _ _ _ _ ⟨w.heap.size, 0, us.size⟩ (by simp [Ren.upd]) hge (.inr ⟨rfl, by show 0 + 0 + cap * 1 = us.size; omega⟩)
    · cases he
  · rename_i e1 sz bt z fl e sz2 bt2 z2 fl2 id off len cap hs hd
    obtain ⟨D, hD, hok⟩ := (hT src _ hs).und
    obtain ⟨D2, hD2, hok2⟩ := (hT dst _ hd).und
    cases D <;> simp only [TD.ok] at hok
    cases D2 <;> simp only [TD.ok] at hok2
    subst hok2
    split at he
    · rename_i sz3 bt3 z3 fl3 cs tg he0 hg
      obtain ⟨D3, hD3, hok3⟩ := (hT _ _ he0).und
      cases D3 <;> simp only [TD.ok] at hok3
      subst hok3
      cases hb : (Nat.beq src dst && Nat.blt cap UNK) with
      | false => rw [hb] at he; cases he
      | true =>
        rw [hb] at he
        cases he
        rw [Bool.and_eq_true] at hb
        have hsd := Nat.eq_of_beq_eq_true hb.1
        subst hsd
        have hDD := hD.symm.trans hD2
        cases hDD
        cases hx with
        | sliceU => have := Nat.le_of_ble_eq_true hb.2; omega
        | slice _ _ _ _ l hl hc =>
          obtain ⟨l', c, ee, fr, o1, o2, o3, o4, o5, o6⟩ := hr.obj id _ hg
          rw [hl] at o1; cases o1
          have hlt : l.blk < w.heap.size := (Array.getElem?_eq_some_iff.1 o2).1
          have hsh : World.shape? w l.blk = some (ee, c.size) := by simp [World.shape?, o2]
          have hat : (w.freeze { block := l.blk, off := c.size } 1).heap[l.blk]? = some (.cells c ee (if fr.1 == fr.2 then (c.size, c.size + 1) else (min fr.1 c.size, max fr.2 (c.size + 1)))) := by
            simp only [World.freeze, Nat.one_ne_zero, if_false, Array.getElem?_modify, if_true, o2]
            rfl
          have hst : Step h R w (h.set id (.cells cs tg false)) R (w.freeze { block := l.blk, off := c.size } 1) := by
            refine step_set hr hg rfl rfl hl (by simp [World.freeze]) rfl rfl rfl (fun b hb2 => ?_) ⟨l, c, ee, _, hl, hat, o3, o4, o5, fun _ => ⟨(o6 rfl).1, ?_⟩⟩
            · simp only [World.freeze, Nat.one_ne_zero, if_false]
              rw [Array.getElem?_modify, if_neg (fun e => hb2 e.symm)]
            · by_cases hfe : fr.1 = fr.2
              · simp [hfe]
              · have : (fr.1 == fr.2) = false := by simp [hfe]
                simp only [this, Bool.false_eq_true, if_false]
                right
                have := (o6 rfl).2
                show c.size ≤ min fr.1 c.size
                omega
          refine ⟨.slice (some ⟨l.blk, l.off + off, none⟩) len cap, _, R, ?_, hst.congr (fun k => ?_) rfl, .slice id off len cap l hl hc, Q.refl _⟩
          · simp only [convert, Sem.run_bind, run_underlying hD, run_underlying hD3, Result.andThen_ok, beq_self_eq_true, markStringish, run_shape, hsh, run_freeze, Sem.run_pure]
          · rw [H.get_set]
            by_cases e : k = id
            · subst e; rw [if_pos rfl]; exact hg
            · rw [if_neg e]
    · cases he
  · cases he
end
end
end Go.Ab
