/- Operations that compute or read, over an abstract heap. Conditions: none. -/
import Derived.Test.YtcgoamfjpnkiiaaGreatAbB
set_option linter.all false
namespace Go.Ab
noncomputable section
open Go.RowKit

def aInt (op : BinOp) (k : IntKind) (a b : Int) : Option Value :=
  match op with
  | .add => some (.int k (k.wrap (a + b)))
  | .sub => some (.int k (k.wrap (a - b)))
  | .mul => some (.int k (k.wrap (a * b)))
  | .quo => if b = 0 then none else some (.int k (k.wrap (a.tdiv b)))
  | .rem => if b = 0 then none else some (.int k (a.tmod b))
  | .and => some (.int k (k.wrap (BitVec.ofInt k.bits a &&& BitVec.ofInt k.bits b).toNat))
  | .or => some (.int k (k.wrap (BitVec.ofInt k.bits a ||| BitVec.ofInt k.bits b).toNat))
  | .xor => some (.int k (k.wrap (BitVec.ofInt k.bits a ^^^ BitVec.ofInt k.bits b).toNat))
  | .andNot => some (.int k (k.wrap (BitVec.ofInt k.bits a &&& ~~~BitVec.ofInt k.bits b).toNat))
  | .eql => some (.bool (a == b))
  | .neq => some (.bool (a != b))
  | .lss => some (.bool (a < b))
  | .leq => some (.bool (a ≤ b))
  | .gtr => some (.bool (a > b))
  | .geq => some (.bool (a ≥ b))
  | _ => none

def aFloat (op : BinOp) (k : FloatKind) (a b : Nat) : Option Value :=
  match op with
  | .add => (k.format.add a b).map (.float k)
  | .sub => (k.format.sub a b).map (.float k)
  | .mul => (k.format.mul a b).map (.float k)
  | .quo => (k.format.div a b).map (.float k)
  | .eql => some (.bool (k.format.order a b == some .eq))
  | .neq => some (.bool (k.format.order a b != some .eq))
  | .lss => some (.bool (k.format.order a b == some .lt))
  | .leq => some (.bool (k.format.order a b == some .lt || k.format.order a b == some .eq))
  | .gtr => some (.bool (k.format.order a b == some .gt))
  | .geq => some (.bool (k.format.order a b == some .gt || k.format.order a b == some .eq))
  | _ => none

def aStr (op : BinOp) (a b : ByteArray) : Option Value :=
  match op with
  | .add => if (a.size : Int) + b.size ≤ IntKind.i64.max then some (.string (a ++ b)) else none
  | .eql => some (.bool (a.data.toList == b.data.toList))
  | .neq => some (.bool !(a.data.toList == b.data.toList))
  | .lss => some (.bool (Op.bytesLess a.data.toList b.data.toList))
  | .leq => some (.bool (Op.bytesLess a.data.toList b.data.toList || a.data.toList == b.data.toList))
  | .gtr => some (.bool !(Op.bytesLess a.data.toList b.data.toList || a.data.toList == b.data.toList))
  | .geq => some (.bool !(Op.bytesLess a.data.toList b.data.toList))
  | _ => none

def aEqN (Ty : Types) (t : TypeId) (x y : Value) : Option Bool :=
  match x, y with
  | .pointer none, .pointer b => match Ty t with | some { d := .pointer _, .. } => some b.isNone | _ => none
  | .pointer (some _), .pointer none => match Ty t with | some { d := .pointer _, .. } => some false | _ => none
  | .slice none _ _, .slice b _ _ => match Ty t with | some { d := .slice _, .. } => some b.isNone | _ => none
  | .slice (some _) _ _, .slice none _ _ => match Ty t with | some { d := .slice _, .. } => some false | _ => none
  | .map none, .map b => match Ty t with | some { d := .map _ _, .. } => some b.isNone | _ => none
  | .map (some _), .map none => match Ty t with | some { d := .map _ _, .. } => some false | _ => none
  | .bool _, .bool _ => aEq Ty 10 t x y
  | .agg _, .agg _ => aEq Ty 10 t x y
  | _, _ => none

def aBin (Ty : Types) (op : BinOp) (t : TypeId) (x y : Value) : Option Value :=
  match x, y with
  | .int k a, .int k' b => match op with
    | .shl => if b < 0 then none else some (.int k (k.wrap (a * 2 ^ (min b.toNat k.bits))))
    | .shr => if b < 0 then none else some (.int k (a.fdiv (2 ^ (min b.toNat k.bits))))
    | op => if k = k' then aInt op k a b else none
  | .float k a, .float k' b => if k = k' then aFloat op k a b else none
  | .string a, .string b => aStr op a b
  | x, y => match op with
    | .eql => (aEqN Ty t x y).map .bool
    | .neq => (aEqN Ty t x y).map fun b => .bool !b
    | _ => none

def aUn (op : UnOp) (x : Value) : Option Value :=
  match op, x with
  | .neg, .int k n => some (.int k (k.wrap (0 - n)))
  | .xor, .int k n => aInt .xor k (if k.signed then -1 else k.max) n
  | .not, .bool b => some (.bool !b)
  | _, _ => none

def aConv (Ty : Types) (dst : TypeId) (x : Value) : Option Value :=
  match Ty dst with
  | none => none
  | some i => match i.d, x with
    | .int k, .int _ n => some (.int k (k.wrap n))
    | .float k, .int _ n => some (.float k (k.nearest n))
    | .int k, .float s b => match (s.decode b).toInt .zero with
      | some n => if k.min ≤ n ∧ n ≤ k.max then some (.int k n) else none
      | none => none
    | .float k, .float s b => if s = k then some (.float k b) else none
    | .complex k, .complex s a b => if s = k then some (.complex k a b) else none
    | .string, .string s => some (.string s)
    | _, _ => none

section
variable {P : Program} {Ty : Types} {w : World}

theorem aInt_sound (op : BinOp) (k : IntKind) (a b : Int) (v : Value) (t : TypeId) (h : aInt op k a b = some v) : (binOp op t (.int k a) (.int k b)).run P w = .ok v w ∧ closedS v = true := by
  cases op <;> simp only [aInt] at h <;> first
    | (cases h; done)
    | (cases h; simp [binOp, Op.intArith, Op.intCmp, Op.intBits, closedS]; done)
    | (split at h
       · cases h
       · rename_i hb; cases h; simp [binOp, Op.intDiv, hb, closedS])

theorem aFloat_sound (op : BinOp) (k : FloatKind) (a b : Nat) (v : Value) (t : TypeId) (h : aFloat op k a b = some v) : (binOp op t (.float k a) (.float k b)).run P w = .ok v w ∧ closedS v = true := by
  cases op <;> simp only [aFloat, Option.map_eq_some_iff] at h <;> first
    | (cases h; done)
    | (cases h; simp [binOp, Op.floatCmp, closedS]; done)
    | (obtain ⟨r, hr, rfl⟩ := h; simp [binOp, Op.floatArith, hr, closedS])

theorem aStr_sound (op : BinOp) (a b : ByteArray) (v : Value) (t : TypeId) (h : aStr op a b = some v) : (binOp op t (.string a) (.string b)).run P w = .ok v w ∧ closedS v = true := by
  cases op <;> simp only [aStr] at h <;> first
    | (cases h; done)
    | (cases h; simp [binOp, Op.stringOp, closedS, ByteArray.toList_eq]; done)
    | (split at h
       · rename_i hb
         cases h
         have : ¬ (((a.size + b.size : Nat) : Int) > IntKind.i64.max) := by omega
         simp only [binOp, Op.stringOp, this, if_false, closedS]
         exact ⟨rfl, trivial⟩
       · cases h)

theorem eqGuard_agg (hT : TyOk P Ty) {t : TypeId} {x y : Value} {b : Bool} (op : BinOp) (ox oy : Operand) {xs ys : Array Value} (h : aEq Ty 10 t x y = some b) : (eqGuard op t ox oy (.agg xs) (.agg ys)).run P w = .ok () w := by
  unfold aEq at h
  cases ht : Ty t with
  | none => rw [ht] at h; cases h
  | some i =>
    rw [ht] at h
    cases hf : i.flat with
    | false => simp [hf] at h
    | true =>
      have := (hT t i ht).flat hf
      unfold eqGuard
      cases op <;> simp [this.2.1]

theorem aEqN_sound (hT : TyOk P Ty) {R : Ren} {t : TypeId} {x y x' y' : Value} {b : Bool} (h : aEqN Ty t x y = some b) (hx : VR R x x') (hy : VR R y y') :
    (Op.equal t x' y').run P w = .ok b w := by
  have hp : ∀ i, Ty t = some i → ∃ D, P.underlying t = some D ∧ i.d.ok D := fun i hi => (hT t i hi).und
  cases hx <;> cases hy <;> simp only [aEqN] at h <;> first
    | (cases h; done)
    | (exact aEq_sound hT R 10 t _ _ _ _ b 10000 (by omega) h (.bool _) (.bool _))
    | (exact aEq_sound hT R 10 t _ _ _ _ b 10000 (by omega) h (.agg _ _ ‹_› ‹_›) (.agg _ _ ‹_› ‹_›))
    | (split at h
       · rename_i hty
         cases h
         obtain ⟨D, hD, hok⟩ := hp _ hty
         cases D <;> simp only [TD.ok] at hok
         show (Op.equalIn (9999 + 1) t _ _).run P w = _
         generalize 9999 = n
         simp [Op.equalIn, run_underlying hD]
       · cases h)

theorem aBin_sound (hT : TyOk P Ty) {R : Ren} {op : BinOp} {t : TypeId} {x y x' y' v : Value} (ox oy : Operand) (h : aBin Ty op t x y = some v) (hx : VR R x x') (hy : VR R y y') :
    (do eqGuard op t ox oy x' y'; binOp op t x' y').run P w = .ok v w ∧ closedS v = true := by
  have key : ∀ {b : Bool}, aEqN Ty t x y = some b → (eqGuard op t ox oy x' y').run P w = .ok () w := by
    intro b hb
    cases hx <;> cases hy <;> simp only [aEqN] at hb <;> first
      | (cases hb; done)
      | exact eqGuard_agg hT op ox oy hb
      | (unfold eqGuard; cases op <;> simp)
  have eqv : ∀ {b : Bool}, aEqN Ty t x y = some b → (op = .eql ∨ op = .neq) → (binOp op t x' y').run P w = .ok (.bool (if op = .eql then b else !b)) w := by
    intro b hb ho
    have hs := aEqN_sound (w := w) hT hb hx hy
    cases hx <;> cases hy <;> simp only [aEqN] at hb <;> first
      | (cases hb; done)
      | (rcases ho with rfl | rfl <;> simp [binOp, hs])
  have g0 : ∀ (c d : Value), (∀ xs, c ≠ .agg xs) → c ≠ .nilIface → (eqGuard op t ox oy c d).run P w = .ok () w := by
    intro c d h1 h2
    unfold eqGuard
    cases op <;> simp <;> (cases c <;> cases d <;> simp_all)
  unfold aBin at h
  split at h
  · cases hx; cases hy
    rw [Sem.run_bind, g0 _ _ (by simp) (by simp), Result.andThen_ok]
    split at h
    · split at h
      · cases h
      · rename_i hb; cases h; simp [binOp, Op.shift, hb, closedS]
    · split at h
      · cases h
      · rename_i hb; cases h; simp [binOp, Op.shift, hb, closedS]
    · split at h
      · rename_i hk; subst hk; exact aInt_sound _ _ _ _ _ _ h
      · cases h
  · cases hx; cases hy
    rw [Sem.run_bind, g0 _ _ (by simp) (by simp), Result.andThen_ok]
    split at h
    · rename_i hk; subst hk; exact aFloat_sound _ _ _ _ _ _ h
    · cases h
  · cases hx; cases hy
    rw [Sem.run_bind, g0 _ _ (by simp) (by simp), Result.andThen_ok]
    exact aStr_sound _ _ _ _ _ h
  · cases op <;> simp only [Option.map_eq_some_iff] at h <;> first
      | (cases h; done)
      | (obtain ⟨b, hb, rfl⟩ := h
         rw [Sem.run_bind, key hb, Result.andThen_ok, eqv hb (by simp)]
         simp [closedS])

theorem aUn_sound {R : Ren} {op : UnOp} {x x' v : Value} (h : aUn op x = some v) (hx : VR R x x') : (Op.unary op x').run P w = .ok v w ∧ closedS v = true := by
  cases op <;> cases hx <;> simp only [aUn] at h <;> first
    | (cases h; done)
    | (cases h; simp [Op.unary, Op.intArith, closedS]; done)
    | (simp only [aInt] at h; cases h; simp [Op.unary, Op.intBits, closedS])

theorem aConv_sound (hT : TyOk P Ty) {R : Ren} {src dst : TypeId} {i0 : TI} (hs : Ty src = some i0) {x x' v : Value} (h : aConv Ty dst x = some v) (hx : VR R x x') :
    (convert src dst x').run P w = .ok v w ∧ closedS v = true := by
  obtain ⟨Ds, hDs, hoks⟩ := (hT src i0 hs).und
  unfold aConv at h
  cases ht : Ty dst with
  | none => rw [ht] at h; cases h
  | some i =>
    rw [ht] at h
    obtain ⟨D, hD, hok⟩ := (hT dst i ht).und
    simp only at h
    cases hd : i.d <;> rw [hd] at h hok <;> cases D <;> simp only [TD.ok] at hok <;> cases hx <;> simp only at h <;> first
      | (cases h; done)
      | (cases h; subst hok; simp [convert, run_underlying hDs, run_underlying hD, Conv.intToInt, Conv.intToFloat, closedS]; done)
      | (cases h; simp [convert, run_underlying hDs, run_underlying hD, closedS]; done)
      | (subst hok
         split at h
         · rename_i n hn
           split at h
           · rename_i hr; cases h; simp [convert, run_underlying hDs, run_underlying hD, Conv.floatToInt, hn, hr, closedS]
           · cases h
         · cases h)
      | (subst hok
         split at h
         · rename_i he; cases h; simp [convert, run_underlying hDs, run_underlying hD, Conv.floatToFloat, Conv.complexToComplex, he, closedS]
         · cases h)
end

/-! Taking apart, putting together -/

def aExtract (x : Value) (i : Nat) : Option Value :=
  match x with
  | .tuple vs => vs.toList[i]?
  | _ => none

def aField (Ty : Types) (t : TypeId) (x : Value) (f : Nat) : Option Value :=
  match Ty t, x with
  | some { d := .struct fs, .. }, .agg cs => match fs[f]? with
    | some (off, ft) => aPart Ty ft cs.toList off
    | none => none
  | _, _ => none

def aIndex (Ty : Types) (t : TypeId) (x i : Value) : Option Value :=
  match Ty t, x, i with
  | some { d := .array n e, .. }, .agg cs, .int _ i => match Ty e with
    | some ie => if 0 ≤ i ∧ i < n then aPart Ty e cs.toList (i.toNat * ie.size) else none
    | none => none
  | some { d := .string, .. }, .string s, .int _ i => if 0 ≤ i then (s.data.toList[i.toNat]?).map fun b => .int .u8 b.toNat else none
  | _, _, _ => none

def setAll (off : Nat) : List Value → Nat → List Value → List Value
  | [], _, cs => cs
  | v :: vs, j, cs => setAll off vs (j + 1) (cs.set (off + j) v)

def aFill (place : Nat → Option (Nat × Nat)) (cs : List Value) : List (Nat × Value) → Option (List Value)
  | [] => some cs
  | (i, v) :: rest => match place i with
    | none => none
    | some (off, size) => if v.cells.toList.length ≠ size || off + v.cells.toList.length > cs.length then none
      else aFill place (setAll off v.cells.toList 0 cs) rest

def sizes (Ty : Types) : List (Nat × TypeId) → Option (List (Nat × Nat))
  | [] => some []
  | (off, t) :: fs => match Ty t, sizes Ty fs with
    | some i, some l => some ((off, i.size) :: l)
    | _, _ => none

def aBuild (Ty : Types) (t : TypeId) (parts : List (Nat × Value)) : Option Value :=
  match Ty t with
  | none => none
  | some i => match i.d with
    | .struct fs => match sizes Ty fs with
      | some l => (aFill (l[·]?) i.zero parts).map fun cs => .agg cs.toArray
      | none => none
    | .array _ e => match Ty e with
      | some ie => (aFill (fun j => some (j * ie.size, ie.size)) i.zero parts).map fun cs => .agg cs.toArray
      | none => none
    | _ => none

section
variable {P : Program} {Ty : Types} {w : World} {R : Ren}

theorem aExtract_sound {x x' v : Value} {i : Nat} (h : aExtract x i = some v) (hx : VR R x x') : ∃ v', (Instr.extract x' i).run P w = .ok v' w ∧ VR R v v' := by
  cases hx <;> simp only [aExtract] at h <;> try (cases h; done)
  rename_i xs ys hs hv
  have hi : i < ys.size := by
    rcases Nat.lt_or_ge i xs.toList.length with h' | h'
    · simpa [hs] using h'
    · rw [List.getElem?_eq_none h'] at h; cases h
  refine ⟨ys[i], by simp [Instr.extract, hi], hv i v ys[i] (by simpa using h) (by simp [hi])⟩

theorem LR.ofArr {xs ys : Array Value} (hs : xs.size = ys.size) (h : ∀ (i : Nat) (x y : Value), xs[i]? = some x → ys[i]? = some y → VR R x y) : LR R xs.toList ys.toList :=
  ⟨by simpa using hs, fun i x y a b => h i x y (by simpa using a) (by simpa using b)⟩

theorem LR.agg {xs : List Value} {ys : Array Value} (h : LR R xs ys.toList) : VR R (.agg xs.toArray) (.agg ys) :=
  .agg _ _ (by simpa using h.1) fun i x y a b => h.2 i x y (by simpa using a) (by simpa using b)

theorem aField_sound (hT : TyOk P Ty) {t : TypeId} {x x' v : Value} {f : Nat} (h : aField Ty t x f = some v) (hx : VR R x x') : ∃ v', (Instr.field t x' f).run P w = .ok v' w ∧ VR R v v' := by
  unfold aField at h
  split at h
  · rename_i fs sz by_ z fl cs ht
    cases hx with
    | agg xs ys hs hv =>
      obtain ⟨D, hD, hok⟩ := (hT t _ ht).und
      cases D <;> simp only [TD.ok] at hok
      rename_i fields
      subst hok
      split at h
      · rename_i off ft hf
        simp only [List.getElem?_map, Option.map_eq_some_iff, Prod.mk.injEq] at hf
        obtain ⟨fd, hfd, rfl, rfl⟩ := hf
        obtain ⟨v', hp, hv'⟩ := part_sound (w := w) hT (LR.ofArr hs hv) h
        refine ⟨v', ?_, hv'⟩
        rw [Array.getElem?_toList] at hfd
        simp [Instr.field, run_underlying hD, hfd, asAgg, hp]
      · cases h
  · cases h

theorem aIndex_sound (hT : TyOk P Ty) {t : TypeId} {x x' i i' v : Value} (h : aIndex Ty t x i = some v) (hx : VR R x x') (hi : VR R i i') : ∃ v', (Instr.index t x' i').run P w = .ok v' w ∧ VR R v v' := by
  unfold aIndex at h
  split at h
  · rename_i n e sz by_ z fl cs k j ht
    cases hx with
    | agg xs ys hs hv =>
      cases hi
      obtain ⟨D, hD, hok⟩ := (hT t _ ht).und
      cases D <;> simp only [TD.ok] at hok
      obtain ⟨rfl, rfl⟩ := hok
      split at h
      · rename_i ie hie
        split at h
        · rename_i hb
          obtain ⟨v', hp, hv'⟩ := part_sound (w := w) hT (LR.ofArr hs hv) h
          exact ⟨v', by simp [Instr.index, asIntOf, run_underlying hD, hb, hT.sizeOf hie, hp], hv'⟩
        · cases h
      · cases h
  · rename_i sz by_ z fl s k j ht
    cases hx; cases hi
    obtain ⟨D, hD, hok⟩ := (hT t _ ht).und
    cases D <;> simp only [TD.ok] at hok
    split at h
    · rename_i hb
      simp only [Option.map_eq_some_iff] at h
      obtain ⟨b, hb', rfl⟩ := h
      have hg : s[j.toNat]? = some b := by
        show (if h : j.toNat < s.size then some (s[j.toNat]) else none) = some b
        have hlt : j.toNat < s.data.toList.length := by
          rcases Nat.lt_or_ge j.toNat s.data.toList.length with h' | h'
          · exact h'
          · rw [List.getElem?_eq_none h'] at hb'; cases hb'
        rw [List.getElem?_eq_getElem hlt] at hb'
        have hlt' : j.toNat < s.size := by simpa using hlt
        rw [dif_pos hlt']
        have h2 : s.data.toList[j.toNat] = b := Option.some.inj hb'
        exact congrArg some (by rw [← h2]; rfl)
      exact ⟨_, by simp [Instr.index, asIntOf, run_underlying hD, hb, hg], .int _ _⟩
    · cases h
  · cases h

theorem setAll_length (off : Nat) : ∀ (vs : List Value) (j : Nat) (cs : List Value), (setAll off vs j cs).length = cs.length
  | [], _, _ => rfl
  | v :: vs, j, cs => by rw [setAll, setAll_length]; simp

theorem LR.set {xs ys : List Value} (h : LR R xs ys) (i : Nat) {x y : Value} (hv : VR R x y) : LR R (xs.set i x) (ys.set i y) := by
  refine ⟨by simpa using h.1, fun j a b ha hb => ?_⟩
  rw [List.getElem?_set] at ha hb
  have := h.1
  split at ha
  · rename_i e
    subst e
    rw [if_pos rfl] at hb
    split at ha
    · rw [if_pos (by omega)] at hb; cases ha; cases hb; exact hv
    · cases ha
  · rename_i e
    rw [if_neg e] at hb
    exact h.2 j a b ha hb

theorem setAll_LR (off : Nat) : ∀ (vs us : List Value) (j : Nat) (cs ds : List Value), LR R vs us → LR R cs ds → LR R (setAll off vs j cs) (setAll off us j ds)
  | [], [], _, _, _, _, h => h
  | v :: vs, u :: us, j, cs, ds, hv, h => by
    simp only [setAll]
    exact setAll_LR off vs us (j + 1) _ _ ⟨by simpa using hv.1, fun i x y a b => hv.2 (i + 1) x y (by simpa using a) (by simpa using b)⟩ (h.set _ (hv.2 0 v u rfl rfl))
  | [], u :: us, _, _, _, hv, _ => by simp [LR] at hv
  | v :: vs, [], _, _, _, hv, _ => by simp [LR] at hv

theorem foldl_setAll (off : Nat) : ∀ (us : List Value) (j : Nat) (ds : Array Value), ((us.zipIdx j).foldl (fun (cs : Array Value) (x : Value × Nat) => cs.setIfInBounds (off + x.2) x.1) ds).toList = setAll off us j ds.toList
  | [], _, _ => rfl
  | u :: us, j, ds => by
    simp only [List.zipIdx_cons, List.foldl_cons, setAll]
    rw [foldl_setAll off us (j + 1)]
    simp

def PR (R : Ren) (ps : List (Nat × Value)) (qs : List (Nat × Value)) : Prop := ps.length = qs.length ∧ ∀ (i : Nat) (p q : Nat × Value), ps[i]? = some p → qs[i]? = some q → p.1 = q.1 ∧ VR R p.2 q.2

theorem aFill_sound {place place' : Nat → Option (Nat × Nat)} (hp : ∀ i x, place i = some x → place' i = some x) : ∀ (ps qs : List (Nat × Value)) (cs : List Value) (ds : Array Value) (vs : List Value),
    PR R ps qs → LR R cs ds.toList → aFill place cs ps = some vs → ∃ us, Instr.fill place' ds qs = some us ∧ LR R vs us.toList
  | [], [], cs, ds, vs, _, hl, h => by simp only [aFill, Option.some.injEq] at h; subst h; exact ⟨ds, rfl, hl⟩
  | (i, v) :: ps, (k, u) :: qs, cs, ds, vs, hpr, hl, h => by
    obtain ⟨rfl, hv⟩ : i = k ∧ VR R v u := hpr.2 0 _ _ rfl rfl
    simp only [aFill] at h
    cases hpl : place i with
    | none => rw [hpl] at h; cases h
    | some x =>
      obtain ⟨off, size⟩ := x
      rw [hpl] at h
      simp only at h
      split at h
      · cases h
      · rename_i hb
        have hvc := hv.cells
        have hlen : u.cells.size = v.cells.toList.length := by rw [← Array.length_toList, hvc.1]
        have hds : ds.size = cs.length := by rw [← Array.length_toList, hl.1]
        obtain ⟨us, hus, hr⟩ := aFill_sound hp ps qs _ (u.cells.zipIdx.foldl (fun (cs : Array Value) (x : Value × Nat) => cs.setIfInBounds (off + x.2) x.1) ds) vs
          ⟨by simpa using hpr.1, fun i p q a b => hpr.2 (i + 1) p q (by simpa using a) (by simpa using b)⟩
          (by
            rw [← Array.foldl_toList, Array.toList_zipIdx, foldl_setAll]
            exact setAll_LR off _ _ 0 _ _ hvc hl) h
        refine ⟨us, ?_, hr⟩
        simp only [Instr.fill, hp i _ hpl, hlen, hds]
        rw [if_neg hb]
        exact hus
  | [], _ :: _, _, _, _, hpr, _, _ => by simp [PR] at hpr
  | _ :: _, [], _, _, _, hpr, _, _ => by simp [PR] at hpr

theorem sizes_sound (hT : TyOk P Ty) : ∀ (fs : List Field) (l : List (Nat × Nat)), sizes Ty (fs.map fun f => (f.offset, f.type)) = some l →
    (fs.mapM fun f => (do pure (f.offset, ← sizeOf f.type) : Sem (Nat × Nat))).run P w = .ok l w
  | [], l, h => by simp only [List.map_nil, sizes, Option.some.injEq] at h; subst h; rfl
  | f :: fs, l, h => by
    simp only [List.map_cons, sizes] at h
    cases ht : Ty f.type with
    | none => rw [ht] at h; simp at h
    | some i =>
      cases hr : sizes Ty (fs.map fun f => (f.offset, f.type)) with
      | none => rw [ht, hr] at h; simp at h
      | some l' =>
        rw [ht, hr] at h
        simp only [Option.some.injEq] at h
        subst h
        rw [List.mapM_cons]
        simp only [Sem.run_bind, hT.sizeOf ht, Result.andThen_ok, Sem.run_pure, sizes_sound hT fs l' hr]

theorem closedZero {i : TI} (hz : ∀ v ∈ i.zero, closedS v = true) {z : Value} (h : z.cells.toList = i.zero) : LR R i.zero z.cells.toList := by
  rw [h]
  exact ⟨rfl, fun j x y a b => by rw [a] at b; cases b; exact .ofClosedS (hz x (List.mem_of_getElem? a))⟩

theorem aBuild_sound (hT : TyOk P Ty) {t : TypeId} {ps : List (Nat × Value)} {qs : Array (Nat × Value)} {v : Value} (h : aBuild Ty t ps = some v) (hp : PR R ps qs.toList) :
    ∃ v', (Instr.build t qs).run P w = .ok v' w ∧ VR R v v' := by
  unfold aBuild at h
  cases ht : Ty t with
  | none => rw [ht] at h; cases h
  | some i =>
    rw [ht] at h
    simp only at h
    obtain ⟨D, hD, hok⟩ := (hT t i ht).und
    obtain ⟨z, hz0, hz1, _⟩ := hT.zero (w := w) ht
    have hlz : LR R i.zero z.cells.toList := closedZero (hT t i ht).zc hz1
    cases hd : i.d with
    | struct fs =>
      rw [hd] at h hok
      cases D <;> simp only [TD.ok] at hok
      rename_i fields
      subst hok
      simp only at h
      cases hs : sizes Ty (fields.toList.map fun f => (f.offset, f.type)) with
      | none => rw [hs] at h; cases h
      | some l =>
        rw [hs] at h
        simp only [Option.map_eq_some_iff] at h
        obtain ⟨cs, hc, rfl⟩ := h
        obtain ⟨us, hu, hr⟩ := aFill_sound (place' := (l.toArray[·]?)) (by simp) ps qs.toList i.zero z.cells cs hp hlz hc
        refine ⟨.agg us, ?_, hr.agg⟩
        have hm := sizes_sound (w := w) hT fields.toList l hs
        have hm' : (fields.mapM fun f => (do pure (f.offset, ← sizeOf f.type) : Sem (Nat × Nat))).run P w = .ok l.toArray w := by
          rw [Array.mapM_eq_mapM_toList, Sem.run_map, hm]
          rfl
        simp only [Instr.build, Sem.run_bind, hz0, Result.andThen_ok, run_underlying hD, hm', hu, Sem.run_pure]
    | array n e =>
      rw [hd] at h hok
      cases D <;> simp only [TD.ok] at hok
      obtain ⟨rfl, rfl⟩ := hok
      simp only at h
      cases he : Ty e with
      | none => rw [he] at h; cases h
      | some ie =>
        rw [he] at h
        simp only [Option.map_eq_some_iff] at h
        obtain ⟨cs, hc, rfl⟩ := h
        obtain ⟨us, hu, hr⟩ := aFill_sound (place' := fun j => some (j * ie.size, ie.size)) (by simp) ps qs.toList i.zero z.cells cs hp hlz hc
        refine ⟨.agg us, ?_, hr.agg⟩
        simp only [Instr.build, Sem.run_bind, hz0, Result.andThen_ok, run_underlying hD, hT.sizeOf he, hu, Sem.run_pure]
    | _ => rw [hd] at h; simp at h
end
end
end Go.Ab
