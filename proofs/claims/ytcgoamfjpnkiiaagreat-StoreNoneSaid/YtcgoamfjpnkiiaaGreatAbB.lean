/- Operations that compute, over an abstract heap: what the model's operations answer in every world that bears it. Conditions: none. -/
import Derived.Test.YtcgoamfjpnkiiaaGreatAbA
import Derived.Laws.Cells
import Derived.Laws.IdiomCopy
import Derived.Laws.StructEq
import Derived.ChangeKeysEq
set_option linter.all false
namespace Go.Ab
noncomputable section
open Go.RowKit

/-- What a type is, as far as the operations ask. -/
inductive TD where
  | bool | int (k : IntKind) | float (k : FloatKind) | complex (k : FloatKind) | string
  | pointer (e : TypeId) | slice (e : TypeId) | array (n : Nat) (e : TypeId) | map (k e : TypeId)
  | struct (fs : List (Nat × TypeId)) | func | tuple

structure TI where
  d : TD
  size : Nat
  bytes : Nat
  zero : List Value
  flat : Bool

def TD.agg : TD → Bool
  | .struct _ | .array _ _ => true
  | _ => false

def TD.ok : TD → TypeDesc → Prop
  | .bool, .bool => True
  | .int k, .int k' => k = k'
  | .float k, .float k' => k = k'
  | .complex k, .complex k' => k = k'
  | .string, .string => True
  | .pointer e, .pointer e' => e = e'
  | .slice e, .slice e' => e = e'
  | .array n e, .array n' e' => n = n' ∧ e = e'
  | .map k e, .map k' e' => k = k' ∧ e = e'
  | .struct fs, .struct fields => fs = fields.toList.map fun f => (f.offset, f.type)
  | .func, .func .. => True
  | .tuple, .tuple _ => True
  | _, _ => False

/-- No address in it. -/
def closedS : Value → Bool
  | .bool _ | .int .. | .float .. | .complex .. | .string _ | .pointer none | .slice none _ _ | .map none | .nilFunc | .nilIface => true
  | _ => false
def closedB : Value → Bool
  | .agg cs => cs.toList.all closedS
  | v => closedS v

structure TyOk1 (P : Program) (t : TypeId) (i : TI) : Prop where
  und : ∃ D, P.underlying t = some D ∧ i.d.ok D
  info : ∃ f, P.info? t = some f ∧ f.size = i.size ∧ f.bytes = i.bytes ∧ ∃ z, f.zero = some z ∧ z.cells.toList = i.zero ∧ (i.d.agg = false → i.zero = [z]) ∧ (i.d.agg = true → z = .agg i.zero.toArray)
  zl : i.zero.length = i.size
  flat : i.flat = true → P.stoodInHeld t = false ∧ P.eqGuardType P.depth t = false ∧ ∀ fields, P.underlying t = some (.struct fields) → ∀ f ∈ fields.toList, f.name ≠ "_"
  zc : ∀ v ∈ i.zero, closedS v = true

abbrev Types := TypeId → Option TI
def TyOk (P : Program) (Ty : Types) : Prop := ∀ t i, Ty t = some i → TyOk1 P t i

def isUndef : Value → Bool
  | .tuple vs => match vs.toList with
    | [.tuple us] => us.isEmpty
    | _ => false
  | _ => false

def oneCell : Value → Bool
  | .agg _ | .tuple _ => false
  | _ => true

theorem VR.ofClosedS {R : Ren} {v : Value} (h : closedS v = true) : VR R v v := by
  cases v with
  | bool b => exact .bool b
  | int k n => exact .int k n
  | float k b => exact .float k b
  | complex k a b => exact .complex k a b
  | string s => exact .string s
  | pointer a => cases a with
    | none => exact .pnil
    | some a => simp [closedS] at h
  | slice a l c => cases a with
    | none => exact .snil l c
    | some a => simp [closedS] at h
  | map r => cases r with
    | none => exact .mnil
    | some a => simp [closedS] at h
  | nilFunc => exact .nilFunc
  | nilIface => exact .nilIface
  | _ => simp [closedS] at h

theorem VR.ofClosed {R : Ren} {v : Value} (h : closedB v = true) : VR R v v := by
  cases v with
  | agg cs =>
    refine .agg cs cs rfl fun i x y hx hy => ?_
    rw [hx] at hy; cases hy
    simp only [closedB, List.all_eq_true] at h
    exact .ofClosedS (h x (by rw [Array.mem_toList_iff]; exact Array.mem_of_getElem? hx))
  | _ => exact .ofClosedS h

theorem VR.oneCell {R : Ren} {v v' : Value} (h : VR R v v') : v'.oneCell' = oneCell v := by cases h <;> rfl

theorem LR.single {R : Ren} {v v' : Value} (h : VR R v v') : LR R [v] [v'] :=
  ⟨rfl, fun i x y hx hy => by
    cases i with
    | zero =>
      simp only [List.getElem?_cons_zero, Option.some.injEq] at hx hy
      subst hx; subst hy
      exact h
    | succ i => simp at hx⟩

theorem VR.cells {R : Ren} {v v' : Value} (h : VR R v v') : LR R v.cells.toList v'.cells.toList := by
  have h0 := h
  cases h with
  | agg xs ys hs h => exact ⟨by simpa [Value.cells] using hs, fun i x y hx hy => h i x y (by simpa [Value.cells] using hx) (by simpa [Value.cells] using hy)⟩
  | _ => exact LR.single h0

/-- A piece of a row. -/
def seg (cs : List Value) (off n : Nat) : Option (List Value) := Fast.cut cs off n
theorem seg_def (cs : List Value) (off n : Nat) : seg cs off n = cond (Nat.ble (off + n) cs.length) (some ((cs.drop off).take n)) none := Fast.cut_eq ..

theorem seg_some {cs vs : List Value} {off n : Nat} (h : seg cs off n = some vs) : off + n ≤ cs.length ∧ vs = (cs.drop off).take n ∧ vs.length = n := by
  rw [seg_def] at h
  cases hb : Nat.ble (off + n) cs.length with
  | false => rw [hb] at h; simp at h
  | true =>
    rw [hb] at h
    have := Nat.le_of_ble_eq_true hb
    simp only [cond_true, Option.some.injEq] at h
    refine ⟨this, h.symm, ?_⟩
    subst h
    simp; omega

theorem seg_get {cs vs : List Value} {off n : Nat} (h : seg cs off n = some vs) (j : Nat) (hj : j < n) : vs[j]? = cs[off + j]? := by
  obtain ⟨h1, rfl, h3⟩ := seg_some h
  rw [List.getElem?_take, if_pos hj, List.getElem?_drop]

theorem seg_LR {R : Ren} {cs ds vs : List Value} {off n : Nat} (h : LR R cs ds) (hs : seg cs off n = some vs) : ∃ us, seg ds off n = some us ∧ LR R vs us := by
  obtain ⟨h1, h2, h3⟩ := seg_some hs
  have hb : Nat.ble (off + n) ds.length = true := Nat.ble_eq_true_of_le (by rw [← h.1]; exact h1)
  have he : seg ds off n = some ((ds.drop off).take n) := by rw [seg_def, hb]; rfl
  refine ⟨_, he, ?_, fun i x y hx hy => ?_⟩
  · rw [h3, (seg_some he).2.2]
  · have hi : i < n := by
      rcases Nat.lt_or_ge i n with h | h
      · exact h
      · rw [List.getElem?_eq_none (by omega)] at hx; cases hx
    rw [seg_get hs i hi] at hx
    rw [seg_get he i hi] at hy
    exact h.2 _ x y hx hy

/-- A part of a value's cells. -/
def aPart (Ty : Types) (t : TypeId) (cs : List Value) (off : Nat) : Option Value :=
  match Ty t with
  | none => none
  | some i => cond i.d.agg (match seg cs off i.size with | some vs => some (.agg vs.toArray) | none => none) cs[off]?

section
variable {P : Program} {Ty : Types} {w : World}

theorem TyOk.isAgg (hT : TyOk P Ty) {t : TypeId} {i : TI} (ht : Ty t = some i) : (isAgg t).run P w = .ok i.d.agg w := by
  obtain ⟨D, hD, hok⟩ := (hT t i ht).und
  simp only [Go.isAgg, Sem.run_bind, run_underlying hD, Result.andThen_ok]
  cases hd : i.d <;> cases D <;> simp_all [TD.ok, TD.agg]

theorem TyOk.sizeOf (hT : TyOk P Ty) {t : TypeId} {i : TI} (ht : Ty t = some i) : (sizeOf t).run P w = .ok i.size w := by
  obtain ⟨f, hf, hs, _⟩ := (hT t i ht).info
  rw [run_sizeOf w hf]
  simp [Program.cellsOf, hf, hs]

theorem TyOk.typeInfo (hT : TyOk P Ty) {t : TypeId} {i : TI} (ht : Ty t = some i) : ∃ f, (typeInfo t).run P w = .ok f w ∧ f.size = i.size ∧ f.bytes = i.bytes := by
  obtain ⟨f, hf, hs, hb, _⟩ := (hT t i ht).info
  exact ⟨f, run_typeInfo w hf, hs, hb⟩

theorem TyOk.zero (hT : TyOk P Ty) {t : TypeId} {i : TI} (ht : Ty t = some i) : ∃ z, (zeroValue t).run P w = .ok z w ∧ z.cells.toList = i.zero ∧ (i.d.agg = false → i.zero = [z]) ∧ (i.d.agg = true → z = .agg i.zero.toArray) := by
  obtain ⟨f, hf, hs, hb, z, hz, h1, h2⟩ := (hT t i ht).info
  refine ⟨z, ?_, h1, h2⟩
  simp [zeroValue, run_typeInfo w hf, hz]

theorem part_sound (hT : TyOk P Ty) {R : Ren} {t : TypeId} {xs : List Value} {ys : Array Value} {off : Nat} {v : Value} (hr : LR R xs ys.toList) (h : aPart Ty t xs off = some v) :
    ∃ v', (part t ys off).run P w = .ok v' w ∧ VR R v v' := by
  unfold aPart at h
  cases ht : Ty t with
  | none => rw [ht] at h; cases h
  | some i =>
    rw [ht] at h
    simp only at h
    cases ha : i.d.agg with
    | true =>
      rw [ha] at h
      simp only [cond_true] at h
      cases hs : seg xs off i.size with
      | none => rw [hs] at h; cases h
      | some vs =>
        rw [hs] at h
        cases h
        obtain ⟨us, hu, hl⟩ := seg_LR hr hs
        refine ⟨.agg (ys.extract off (off + i.size)), by simp [part, hT.isAgg ht, hT.sizeOf ht, ha], ?_⟩
        have he : (ys.extract off (off + i.size)).toList = us := by
          rw [Array.toList_extract, (seg_some hu).2.1]
          simp [List.extract]
        refine .agg _ _ ?_ ?_
        · rw [← Array.length_toList, ← Array.length_toList, he]; simpa using hl.1
        · intro j x y hx hy
          rw [← Array.getElem?_toList] at hx hy
          rw [he] at hy
          exact hl.2 j x y (by simpa using hx) hy
    | false =>
      rw [ha] at h
      simp only [cond_false] at h
      have hlt : off < xs.length := by
        rcases Nat.lt_or_ge off xs.length with h' | h'
        · exact h'
        · rw [List.getElem?_eq_none h'] at h; cases h
      have hlt' : off < ys.toList.length := by rw [← hr.1]; exact hlt
      have hg : ys.toList[off]? = some ys.toList[off] := List.getElem?_eq_getElem hlt'
      refine ⟨ys.toList[off], ?_, hr.2 off _ _ h hg⟩
      rw [Array.getElem?_toList] at hg
      simp [part, hT.isAgg ht, ha, hg]
end

/-- Equality of flat values, by their cells. -/
def aEqS : TD → Value → Value → Option Bool
  | .bool, .bool a, .bool b => some (a == b)
  | .int _, .int k a, .int k' b => if k = k' then some (a == b) else none
  | .string, .string a, .string b => some (a.data.toList == b.data.toList)
  | _, _, _ => none

def aEqFs (eq : TypeId → Value → Value → Option Bool) (Ty : Types) (xs ys : List Value) : List (Nat × TypeId) → Option Bool
  | [] => some true
  | (off, t) :: fs => match aPart Ty t xs off, aPart Ty t ys off with
    | some a, some b => match eq t a b with
      | some true => aEqFs eq Ty xs ys fs
      | r => r
    | _, _ => none

def aEqIs (eq : Value → Value → Option Bool) (Ty : Types) (e : TypeId) (es : Nat) (xs ys : List Value) : Nat → Nat → Option Bool
  | 0, _ => some true
  | n + 1, i => match aPart Ty e xs (i * es), aPart Ty e ys (i * es) with
    | some a, some b => match eq a b with
      | some true => aEqIs eq Ty e es xs ys n (i + 1)
      | r => r
    | _, _ => none

def aEq (Ty : Types) : Nat → TypeId → Value → Value → Option Bool
  | 0, _, _, _ => none
  | d + 1, t, x, y => match Ty t with
    | none => none
    | some i => cond i.flat (match i.d with
      | .struct fs => match x, y with
        | .agg xs, .agg ys => aEqFs (aEq Ty d) Ty xs.toList ys.toList fs
        | _, _ => none
      | .array n e => match x, y, Ty e with
        | .agg xs, .agg ys, some ie => aEqIs (aEq Ty d e) Ty e ie.size xs.toList ys.toList n 0
        | _, _, _ => none
      | s => aEqS s x y) none

section
variable {P : Program} {Ty : Types} {w : World}

theorem aEq_sound (hT : TyOk P Ty) (R : Ren) : ∀ (d : Nat) (t : TypeId) (x y x' y' : Value) (b : Bool) (k : Nat), d ≤ k → aEq Ty d t x y = some b → VR R x x' → VR R y y' → (Op.equalIn k t x' y').run P w = .ok b w := by
  intro d
  induction d with
  | zero => intro t x y x' y' b k _ h; simp [aEq] at h
  | succ d ih =>
    intro t x y x' y' b k hk h hx hy
    obtain ⟨k, rfl⟩ : ∃ m, k = m + 1 := ⟨k - 1, by omega⟩
    unfold aEq at h
    cases ht : Ty t with
    | none => rw [ht] at h; cases h
    | some i =>
      rw [ht] at h
      simp only at h
      cases hf : i.flat with
      | false => rw [hf] at h; simp at h
      | true =>
        rw [hf] at h
        simp only [cond_true] at h
        obtain ⟨D, hD, hok⟩ := (hT t i ht).und
        have hfl := (hT t i ht).flat hf
        cases hd : i.d with
        | struct fs =>
          rw [hd] at h hok
          cases D <;> simp only [TD.ok] at hok
          rename_i fields
          cases hx with
          | agg xs xs' hxs hx =>
            cases hy with
            | agg ys ys' hys hy =>
              simp only at h
              have hfo : P.fieldsOf t = fields := by simp [Program.fieldsOf, hD]
              rw [run_equalIn_struct w k t xs' ys' (by rw [hfo]; exact hD) hfl.1, hfo]
              have hn : ∀ f ∈ fields.toList, f.name ≠ "_" := hfl.2.2 fields hD
              subst hok
              clear hD hfo hd
              have lx : LR R xs.toList xs'.toList := ⟨by simpa using hxs, fun i x y a b => hx i x y (by simpa using a) (by simpa using b)⟩
              have ly : LR R ys.toList ys'.toList := ⟨by simpa using hys, fun i x y a b => hy i x y (by simpa using a) (by simpa using b)⟩
              generalize fields.toList = fl at *
              induction fl with
              | nil => simp only [List.map_nil, aEqFs, Option.some.injEq] at h; subst h; simp [Op.eqFields]
              | cons f fl ihf =>
                simp only [List.map_cons, aEqFs] at h
                cases h1 : aPart Ty f.type xs.toList f.offset with
                | none => rw [h1] at h; simp at h
                | some a =>
                  cases h2 : aPart Ty f.type ys.toList f.offset with
                  | none => rw [h1, h2] at h; simp at h
                  | some c =>
                    rw [h1, h2] at h
                    simp only at h
                    obtain ⟨a', p1, r1⟩ := part_sound (w := w) hT lx h1
                    obtain ⟨c', p2, r2⟩ := part_sound (w := w) hT ly h2
                    simp only [Op.eqFields, ne_eq, hn f (by simp), not_false_eq_true, if_true, Sem.run_bind, p1, p2, Result.andThen_ok]
                    cases h3 : aEq Ty d f.type a c with
                    | none => rw [h3] at h; simp at h
                    | some e =>
                      rw [ih f.type a c a' c' e k (by omega) h3 r1 r2, Result.andThen_ok]
                      rw [h3] at h
                      cases e with
                      | false => simp only [Option.some.injEq] at h; subst h; simp
                      | true => simp only at h; simp only [Bool.not_true, Bool.false_eq_true, if_false]; exact ihf (fun f hf => hn f (by simp [hf])) h
            | _ => simp at h
          | _ => simp at h
        | array n e =>
          rw [hd] at h hok
          cases D <;> simp only [TD.ok] at hok
          rename_i n' e'
          obtain ⟨rfl, rfl⟩ := hok
          cases hx with
          | agg xs xs' hxs hx =>
            cases hy with
            | agg ys ys' hys hy =>
              cases he : Ty e with
              | none => simp [he] at h
              | some ie =>
                simp only [he] at h
                obtain ⟨f, hfi, hsz, _⟩ := (hT e ie he).info
                rw [run_equalIn_array w k xs' ys' hD hfi]
                have hcs : P.cellsOf e = ie.size := by simp [Program.cellsOf, hfi, hsz]
                rw [hcs]
                have lx : LR R xs.toList xs'.toList := ⟨by simpa using hxs, fun i x y a b => hx i x y (by simpa using a) (by simpa using b)⟩
                have ly : LR R ys.toList ys'.toList := ⟨by simpa using hys, fun i x y a b => hy i x y (by simpa using a) (by simpa using b)⟩
                rw [List.range_eq_range']
                clear hD hd
                generalize 0 = j at *
                induction n generalizing j with
                | zero => simp only [aEqIs, Option.some.injEq] at h; subst h; simp [Op.eqItems]
                | succ n ihn =>
                  simp only [aEqIs] at h
                  cases h1 : aPart Ty e xs.toList (j * ie.size) with
                  | none => rw [h1] at h; simp at h
                  | some a =>
                    cases h2 : aPart Ty e ys.toList (j * ie.size) with
                    | none => rw [h1, h2] at h; simp at h
                    | some c =>
                      rw [h1, h2] at h
                      simp only at h
                      obtain ⟨a', p1, r1⟩ := part_sound (w := w) hT lx h1
                      obtain ⟨c', p2, r2⟩ := part_sound (w := w) hT ly h2
                      simp only [List.range'_succ, Op.eqItems, Sem.run_bind, p1, p2, Result.andThen_ok]
                      cases h3 : aEq Ty d e a c with
                      | none => rw [h3] at h; simp at h
                      | some u =>
                        rw [ih e a c a' c' u k (by omega) h3 r1 r2, Result.andThen_ok]
                        rw [h3] at h
                        cases u with
                        | false => simp only [Option.some.injEq] at h; subst h; simp
                        | true => simp only at h; simp only [Bool.not_true, Bool.false_eq_true, if_false]; exact ihn (j + 1) h
            | _ => simp at h
          | _ => simp at h
        | bool =>
          rw [hd] at h hok
          cases D <;> simp only [TD.ok] at hok
          cases hx <;> simp only [aEqS] at h <;> try (cases h; done)
          cases hy <;> simp only [aEqS] at h <;> try (cases h; done)
          cases h
          simp [Op.equalIn, run_underlying hD]
        | int q =>
          rw [hd] at h hok
          cases D <;> simp only [TD.ok] at hok
          cases hx <;> simp only [aEqS] at h <;> try (cases h; done)
          cases hy <;> simp only [aEqS] at h <;> try (cases h; done)
          split at h
          · cases h; rename_i hkk; simp [Op.equalIn, run_underlying hD, hkk]
          · cases h
        | string =>
          rw [hd] at h hok
          cases D <;> simp only [TD.ok] at hok
          cases hx <;> simp only [aEqS] at h <;> try (cases h; done)
          cases hy <;> simp only [aEqS] at h <;> try (cases h; done)
          cases h
          simp [Op.equalIn, run_underlying hD, beq_toListBytes, ByteArray.toList_eq]
        | _ => rw [hd] at h; simp [aEqS] at h
end
end
end Go.Ab
