/- Regions that draw their order, over an abstract heap: one run in the text's order, and what makes it every order's. Conditions: none. -/
import Derived.Test.YtcgoamfjpnkiiaaGreatAbN
set_option linter.all false
namespace Go.Ab
noncomputable section
open Go.RowKit

/-- What one operation of a drawn region did. -/
structure Rec where
  mask : Nat
  reads : List Nat
  dst : Option Nat
  val : Value
  dom : Option (List Nat)
  cut : List (Nat × Nat)
  wr : Bool
  lo : Nat
  hi : Nat
  hin : H
  hout : H
  want : Bool
  ts : List Value
  o : Oper
  kept : List Nat := []

/-! Objects that are one -/
def eqA : Option Addr → Option Addr → Bool
  | none, none => true
  | some ⟨a, b, none⟩, some ⟨a', b', none⟩ => Nat.beq a a' && Nat.beq b b'
  | _, _ => false
theorem eqA_sound {a b : Option Addr} (h : eqA a b = true) : a = b := by
  unfold eqA at h
  split at h
  · rfl
  · rw [Bool.and_eq_true] at h; rw [Nat.eq_of_beq_eq_true h.1, Nat.eq_of_beq_eq_true h.2]
  · cases h

def eqS1 : Value → Value → Bool
  | .bool a, .bool b => a == b
  | .int k a, .int k' b => decide (k = k') && decide (a = b)
  | .float k a, .float k' b => decide (k = k') && Nat.beq a b
  | .complex k a b, .complex k' a' b' => decide (k = k') && (Nat.beq a a' && Nat.beq b b')
  | .string a, .string b => decide (a.data.toList = b.data.toList)
  | .pointer a, .pointer b => eqA a b
  | .slice x a b, .slice x' a' b' => eqA x x' && (Nat.beq a a' && Nat.beq b b')
  | .map none, .map none => true
  | .map (some a), .map (some b) => Nat.beq a b
  | .nilFunc, .nilFunc => true
  | .nilIface, .nilIface => true
  | _, _ => false

theorem eqS1_sound {a b : Value} (h : eqS1 a b = true) : a = b := by
  unfold eqS1 at h
  split at h <;> (try simp only [Bool.and_eq_true, decide_eq_true_eq, beq_iff_eq] at h)
  · rw [h]
  · rw [h.1, h.2]
  · rw [h.1, Nat.eq_of_beq_eq_true h.2]
  · rw [h.1, Nat.eq_of_beq_eq_true h.2.1, Nat.eq_of_beq_eq_true h.2.2]
  · rename_i a b
    have : a = b := by
      cases a; cases b
      congr 1
      exact Array.toList_inj.1 h
    rw [this]
  · rw [eqA_sound h]
  · rw [eqA_sound h.1, Nat.eq_of_beq_eq_true h.2.1, Nat.eq_of_beq_eq_true h.2.2]
  · rfl
  · rw [Nat.eq_of_beq_eq_true h]
  · rfl
  · rfl
  · cases h

def eqL1 (f : Value → Value → Bool) : List Value → List Value → Bool
  | [], [] => true
  | a :: as, b :: bs => f a b && eqL1 f as bs
  | _, _ => false
theorem eqL1_sound {f : Value → Value → Bool} (hf : ∀ a b, f a b = true → a = b) : ∀ {as bs : List Value}, eqL1 f as bs = true → as = bs
  | [], [], _ => rfl
  | a :: as, b :: bs, h => by
    simp only [eqL1, Bool.and_eq_true] at h
    rw [hf _ _ h.1, eqL1_sound hf h.2]
  | [], _ :: _, h => by cases h
  | _ :: _, [], h => by cases h

def eqV1 : Value → Value → Bool
  | .agg a, .agg b => eqL1 eqS1 a.toList b.toList
  | a, b => eqS1 a b
theorem eqV1_sound {a b : Value} (h : eqV1 a b = true) : a = b := by
  unfold eqV1 at h
  split at h
  · rw [Array.toList_inj.1 (eqL1_sound (fun _ _ => eqS1_sound) h)]
  · exact eqS1_sound h

def eqE1 : List MapEntry → List MapEntry → Bool
  | [], [] => true
  | ⟨a, b, c⟩ :: as, ⟨a', b', c'⟩ :: bs => eqV1 a a' && eqV1 b b' && Nat.beq c c' && eqE1 as bs
  | _, _ => false
theorem eqE1_sound : ∀ {as bs : List MapEntry}, eqE1 as bs = true → as = bs
  | [], [], _ => rfl
  | ⟨a, b, c⟩ :: as, ⟨a', b', c'⟩ :: bs, h => by
    simp only [eqE1, Bool.and_eq_true] at h
    rw [eqV1_sound h.1.1.1, eqV1_sound h.1.1.2, Nat.eq_of_beq_eq_true h.1.2, eqE1_sound h.2]
  | [], _ :: _, h => by cases h
  | _ :: _, [], h => by cases h

def eqO : Option AObj → Option AObj → Bool
  | some (.cells a t r), some (.cells a' t' r') => eqL1 eqV1 a a' && Nat.beq t t' && (r == r')
  | some (.map a c t), some (.map a' c' t') => eqE1 a a' && Nat.beq c c' && Nat.beq t t'
  | _, _ => false
theorem eqO_sound {a b : Option AObj} (h : eqO a b = true) : a = b := by
  unfold eqO at h
  split at h
  · simp only [Bool.and_eq_true, beq_iff_eq] at h
    rw [eqL1_sound (fun _ _ => eqV1_sound) h.1.1, Nat.eq_of_beq_eq_true h.1.2, h.2]
  · simp only [Bool.and_eq_true] at h
    rw [eqE1_sound h.1.1, Nat.eq_of_beq_eq_true h.1.2, Nat.eq_of_beq_eq_true h.2]
  · cases h

/-- Of some objects those that are as they were. -/
def keptOf (h h1 : H) (ids : List Nat) : List Nat := ids.filter fun id => Nat.blt id h.n && eqO (h1.get id) (h.get id)

def inRs (l : List (Nat × Nat)) (id : Nat) : Bool := l.any fun p => Nat.ble p.1 id && Nat.blt id p.2

/-- Does it see an object? -/
def Rec.sees (r : Rec) (id : Nat) : Bool :=
  match r.dom with
  | some l => l.contains id
  | none => Nat.blt id r.lo && !inRs r.cut id

/-- Does it make or change an object? -/
def Rec.chg (r : Rec) (id : Nat) : Bool := r.wr && !r.kept.contains id
def Rec.makes (r : Rec) (id : Nat) : Bool := (Nat.ble r.lo id && Nat.blt id r.hi) || (r.chg id && r.sees id)

def Rec.writes (r : Rec) (t : Nat) : Bool :=
  match r.dst with
  | some d => Nat.beq d t
  | none => false

/-- Of some records, the last one that has a key tells its value. -/
def ovr {β : Type} (W : Rec → Nat → Bool) (v : Rec → Nat → β) (sel : Nat → Bool) : List Rec → Nat → (Nat → β) → Nat → β
  | [], _, g, k => g k
  | r :: rs, i, g, k => ovr W v sel rs (i + 1) (fun k => if (sel i && W r k) = true then v r k else g k) k

section
variable {β : Type} {W : Rec → Nat → Bool} {v : Rec → Nat → β}

theorem ovr_congr {sel sel' : Nat → Bool} {k : Nat} : ∀ (rs : List Rec) (i : Nat) (g g' : Nat → β), g k = g' k → (∀ j r, rs[j]? = some r → W r k = true → sel (i + j) = sel' (i + j)) → ovr W v sel rs i g k = ovr W v sel' rs i g' k
  | [], i, g, g', hg, _ => hg
  | r :: rs, i, g, g', hg, h => by
    simp only [ovr]
    refine ovr_congr rs (i + 1) _ _ ?_ (fun j r' hj hw => by have := h (j + 1) r' (by simpa using hj) hw; rwa [show i + 1 + j = i + (j + 1) by omega])
    have h0 := h 0 r rfl
    simp only [Nat.add_zero] at h0
    cases hw : W r k with
    | false => simp [hg]
    | true => rw [h0 hw, hg]

theorem ovr_append {sel : Nat → Bool} {k : Nat} : ∀ (rs rs2 : List Rec) (i : Nat) (g : Nat → β), ovr W v sel (rs ++ rs2) i g k = ovr W v sel rs2 (i + rs.length) (fun k => ovr W v sel rs i g k) k
  | [], rs2, i, g => by simp [ovr]
  | r :: rs, rs2, i, g => by
    simp only [List.cons_append, ovr, List.length_cons]
    rw [ovr_append rs rs2 (i + 1)]
    rw [show i + 1 + rs.length = i + (rs.length + 1) by omega]

/-- None of them has the key: as it was. -/
theorem ovr_none {sel : Nat → Bool} {k : Nat} : ∀ (rs : List Rec) (i : Nat) (g : Nat → β), (∀ j r, rs[j]? = some r → W r k = true → sel (i + j) = false) → ovr W v sel rs i g k = g k
  | [], i, g, _ => rfl
  | r :: rs, i, g, h => by
    simp only [ovr]
    rw [ovr_none rs (i + 1) _ (fun j r' hj hw => by have := h (j + 1) r' (by simpa using hj) hw; rwa [show i + 1 + j = i + (j + 1) by omega])]
    have h0 := h 0 r rfl
    simp only [Nat.add_zero] at h0
    cases hw : W r k with
    | false => simp
    | true => simp [h0 hw]

/-- One more is selected, which is the last that has the key. -/
theorem ovr_put {sel : Nat → Bool} {n : Nat} {k : Nat} {rs : List Rec} {g : Nat → β} {r : Rec} (hr : rs[n]? = some r) (hlast : W r k = true → ∀ j r', rs[j]? = some r' → n < j → W r' k = true → sel j = false) :
    ovr W v (fun j => j == n || sel j) rs 0 g k = if W r k = true then v r k else ovr W v sel rs 0 g k := by
  have hn : n < rs.length := (List.getElem?_eq_some_iff.1 hr).1
  have hsplit : rs = rs.take n ++ r :: rs.drop (n + 1) := by
    have h1 := List.take_append_drop n rs
    have h2 : rs.drop n = r :: rs.drop (n + 1) := by
      rw [List.drop_eq_getElem_cons hn]
      rw [List.getElem?_eq_getElem hn] at hr
      cases hr; rfl
    rw [h2] at h1
    exact h1.symm
  cases hw : W r k with
  | false =>
    simp only [Bool.false_eq_true, if_false]
    refine ovr_congr rs 0 g g rfl fun j r' hj hw' => ?_
    rw [Nat.zero_add]
    by_cases e : j = n
    · subst e; rw [hr] at hj; cases hj; rw [hw] at hw'; cases hw'
    · simp [e]
  | true =>
    simp only [if_true]
    rw [hsplit, ovr_append]
    simp only [ovr, Nat.zero_add]
    have hlen : (rs.take n).length = n := by simp; omega
    rw [ovr_none]
    · rw [hlen]; simp [hw]
    · intro j r' hj hw'
      rw [hlen]
      have hj' : rs[n + 1 + j]? = some r' := by rw [List.getElem?_drop] at hj; exact hj
      have := hlast hw (n + 1 + j) r' hj' (by omega) hw'
      have e : (n + 1 + j == n) = false := by simp; omega
      simp [e, this]
end

def maskL (rs : List Rec) : List Edge → Option Nat
  | [] => some 0
  | e :: es => match maskL rs es with
    | none => none
    | some m => cond (Region.binds .any e) (match rs[e.on]? with
      | some r => some (m ||| 2 ^ e.on ||| r.mask)
      | none => none) (some m)

def tmpsOf : List Operand → List Nat
  | [] => []
  | .tmp t :: xs => t :: tmpsOf xs
  | _ :: xs => tmpsOf xs

def readsOf (ops : Array Oper) (o : Oper) : List Nat :=
  tmpsOf o.op.operands.toList ++ (match o.guard with
    | some (j, _) => ((ops[j]?).bind (·.dst)).toList
    | none => [])

def evalR (reads : List Nat) (ts : List Value) : Operand → Option Value
  | .tmp t => cond (reads.contains t) (evalT ts (.tmp t)) none
  | x => evalT ts x

def idOf : Option Value → Option (List Nat)
  | some (.pointer (some ⟨id, _, _⟩)) => some [id]
  | some (.map (some id)) => some [id]
  | some (.slice (some ⟨id, _, _⟩) _ _) => some [id]
  | _ => some []

def idOf2 : Option (List Nat) → Option (List Nat) → Option (List Nat)
  | some a, some b => some (a ++ b)
  | _, _ => none

/-- The objects that an operation sees ('none': it may see all). -/
def domOf (ev : Operand → Option Value) : Op → Option (List Nat)
  | .load _ x | .store _ x _ | .lookup _ x _ _ | .mapUpdate _ x _ _ | .insert _ x _ _ | .mapEntry _ x _ | .entryStore _ x _ _ | .next x _ | .convert _ _ x => idOf (ev x)
  | .call { callee := .builtin .len, args, .. } => match args[0]?.bind ev with
    | some (.map (some id)) => some [id]
    | _ => some []
  | .call { callee := .builtin .clear, args, .. } => idOf (args[0]?.bind ev)
  | .call { callee := .builtin .append, args, .. } | .call { callee := .builtin .copy, args, .. } => idOf2 (idOf (args[0]?.bind ev)) (idOf (args[1]?.bind ev))
  | .call { callee := .value _, .. } => none
  | _ => some []

def copyIds (dst src : H) : List Nat → H
  | [] => dst
  | id :: ids => copyIds { dst with m := dst.m.put id (src.get id) } src ids

theorem copyIds_get (src : H) (k : Nat) : ∀ (ids : List Nat) (dst : H), (copyIds dst src ids).get k = if k ∈ ids then src.get k else dst.get k
  | [], dst => by simp [copyIds]
  | id :: ids, dst => by
    rw [copyIds, copyIds_get src k ids]
    by_cases h1 : k ∈ ids
    · simp [h1]
    · rw [if_neg h1]
      show (dst.m.put id (src.get id)).get k = _
      rw [Tr.get_put]
      by_cases h2 : k = id
      · subst h2; simp
      · simp [h1, h2]; rfl

def emptyH (n : Nat) : H := { m := .leaf, n := n, lw := n }

def idsOf : List (Nat × Nat) → List Nat
  | [] => []
  | (a, b) :: l => List.range' a (b - a) ++ idsOf l

theorem mem_idsOf {k : Nat} : ∀ (l : List (Nat × Nat)), k ∈ idsOf l ↔ inRs l k = true
  | [] => by simp [idsOf, inRs]
  | (a, b) :: l => by
    simp only [idsOf, List.mem_append, List.mem_range'_1, mem_idsOf l, inRs, List.any_cons, Bool.or_eq_true, Bool.and_eq_true]
    have h1 : Nat.ble a k = true ↔ a ≤ k := ⟨Nat.le_of_ble_eq_true, Nat.ble_eq_true_of_le⟩
    have h2 : Nat.blt k b = true ↔ k < b := ⟨Nat.le_of_ble_eq_true, fun h => Nat.ble_eq_true_of_le h⟩
    rw [h1, h2]
    constructor
    · rintro (h | h)
      · exact .inl (by omega)
      · exact .inr h
    · rintro (h | h)
      · exact .inl (by omega)
      · exact .inr h

def cutOf (m : Nat) : List Rec → Nat → List (Nat × Nat)
  | [], _ => []
  | r :: rs, i => cond (m.testBit i || Nat.beq r.lo r.hi) (cutOf m rs (i + 1)) ((r.lo, r.hi) :: cutOf m rs (i + 1))

def disj (a b : List Nat) : Bool := a.all fun x => !b.contains x

def safeOk (w : Bool) (k : List Nat) (d : Option (List Nat)) : Bool :=
  !w || (match d with
    | some l => l.all fun id => k.contains id
    | none => false)

def heapOk (w1 : Bool) (k1 : List Nat) (d1 : Option (List Nat)) (w2 : Bool) (k2 : List Nat) (d2 : Option (List Nat)) : Bool :=
  (safeOk w1 k1 d2 && safeOk w2 k2 d1) || (match d1, d2 with
    | some a, some b => disj a b
    | none, some b => b.isEmpty
    | some a, none => a.isEmpty
    | none, none => false)

def slotOk (r : Rec) (reads : List Nat) (dst : Option Nat) : Bool :=
  (match r.dst with
    | some d => !reads.contains d && (match dst with | some d' => !Nat.beq d d' | none => true)
    | none => true) &&
  (match dst with | some d => !r.reads.contains d | none => true)

/-- Does an operation that is not ordered ahead of this one leave it alone, and this one it? -/
def apartOk (r : Rec) (reads : List Nat) (dst : Option Nat) (dom : Option (List Nat)) (wr : Bool) (kept : List Nat) : Bool :=
  slotOk r reads dst && heapOk r.wr r.kept r.dom wr kept dom && (match dom with | some l => l.all fun id => Nat.blt id r.lo || Nat.ble r.hi id | none => true)

def apartAll (m : Nat) (reads : List Nat) (dst : Option Nat) (dom : Option (List Nat)) (wr : Bool) (kept : List Nat) : List Rec → Nat → Bool
  | [], _ => true
  | r :: rs, i => (m.testBit i || apartOk r reads dst dom wr kept) && apartAll m reads dst dom wr kept rs (i + 1)

def dstIn (dst : Option Nat) (n : Nat) : Bool :=
  match dst with
  | some d => Nat.blt d n
  | none => true

def drawEv (Ty : Types) (F : FunT) (ops : Array Oper) : List Oper → List Rec → List Value → H → Option (List Rec × List Value × H)
  | [], rs, ts, h => some (rs, ts, h)
  | o :: rest, rs, ts, h => match maskL rs o.after.toList, wantT ops o ts with
    | some m, some false => cond (dstIn o.dst ts.length && apartAll m (readsOf ops o) o.dst (some []) false [] rs 0)
        (drawEv Ty F ops rest (rs ++ [{ mask := m, reads := readsOf ops o, dst := o.dst, val := skipA, dom := some [], cut := [], wr := false, lo := h.n, hi := h.n, hin := emptyH h.n, hout := emptyH h.n, want := false, ts := ts, o := o }])
          (putT ts o.dst skipA) h) none
    | some m, some true =>
      match domOf (evalR (readsOf ops o) ts) o.op with
      | some ids => cond (ids.all fun id => Nat.blt id h.n) (match aOp Ty F (evalR (readsOf ops o) ts) o.op (copyIds (emptyH h.n) h ids) with
        | some (v, h1) => cond (dstIn o.dst ts.length && apartAll m (readsOf ops o) o.dst (some ids) (!Nat.beq h1.lw h.n) [] rs 0)
          (drawEv Ty F ops rest (rs ++ [{ mask := m, reads := readsOf ops o, dst := o.dst, val := v, dom := some ids, cut := [], wr := !Nat.beq h1.lw h.n, lo := h.n, hi := h1.n, hin := copyIds (emptyH h.n) h ids, hout := h1, want := true, ts := ts, o := o }])
            (putT ts o.dst v) { copyIds h h1 (ids ++ List.range' h.n (h1.n - h.n)) with n := h1.n, lw := min h.lw h1.lw }) none
        | none => none) none
      | none => match aOp Ty F (evalR (readsOf ops o) ts) o.op { copyIds h (emptyH h.n) (idsOf (cutOf m rs 0)) with lw := h.n } with
        | some (v, h1) => cond (dstIn o.dst ts.length && apartAll m (readsOf ops o) o.dst none (!Nat.beq h1.lw h.n) (keptOf h h1 (List.range h.n)) rs 0)
          (drawEv Ty F ops rest (rs ++ [{ mask := m, reads := readsOf ops o, dst := o.dst, val := v, dom := none, cut := cutOf m rs 0, wr := !Nat.beq h1.lw h.n, lo := h.n, hi := h1.n, hin := { copyIds h (emptyH h.n) (idsOf (cutOf m rs 0)) with lw := h.n }, hout := h1, want := true, ts := ts, o := o, kept := keptOf h h1 (List.range h.n) }])
            (putT ts o.dst v) { copyIds h1 h (idsOf (cutOf m rs 0)) with n := h1.n, lw := min h.lw h1.lw }) none
        | none => none
    | _, _ => none

theorem copyIds_n (src : H) : ∀ (ids : List Nat) (dst : H), (copyIds dst src ids).n = dst.n
  | [], _ => rfl
  | id :: ids, dst => by rw [copyIds, copyIds_n src ids]
theorem copyIds_lw (src : H) : ∀ (ids : List Nat) (dst : H), (copyIds dst src ids).lw = dst.lw
  | [], _ => rfl
  | id :: ids, dst => by rw [copyIds, copyIds_lw src ids]

/-- The heap that the first i records leave, and the slots. -/
abbrev heapAt (base : H) (rs : List Rec) (i : Nat) : Nat → Option AObj := ovr Rec.makes (fun r k => r.hout.get k) (fun j => Nat.blt j i) rs 0 base.get
abbrev slotAt (ts : List Value) (rs : List Rec) (i : Nat) : Nat → Option Value := ovr Rec.writes (fun r _ => some r.val) (fun j => Nat.blt j i) rs 0 (fun t => ts[t]?)

/-- What is known of the i-th record. -/
structure GoodR (Ty : Types) (F : FunT) (ops : Array Oper) (base : H) (ts0 : List Value) (rs : List Rec) (i : Nat) (r : Rec) : Prop where
  op : ops[i]? = some r.o
  mask : maskL (rs.take i) r.o.after.toList = some r.mask
  reads : r.reads = readsOf ops r.o
  dst : r.dst = r.o.dst
  wants : wantT ops r.o r.ts = some r.want
  slots : ∀ t : Nat, r.ts[t]? = slotAt ts0 rs i t
  hin : ∀ id, r.hin.get id = if r.sees id = true then heapAt base rs i id else none
  seesLt : ∀ id, r.sees id = true → id < r.lo
  lo : base.n ≤ r.lo
  hinn : r.hin.n = r.lo
  hinWf : Wf r.hin
  houtn : r.hout.n = r.hi
  run : r.want = true → aOp Ty F (evalR r.reads r.ts) r.o.op r.hin = some (r.val, r.hout)
  skip : r.want = false → r.val = skipA ∧ r.hout = r.hin ∧ r.hi = r.lo
  keep : ∀ id, r.chg id = false → id < r.lo → r.sees id = true → r.hout.get id = r.hin.get id
  noSee : ∀ id, id < r.lo → r.sees id = false → r.hout.get id = none
  top : ∀ id o, r.hout.get id = some o → id < r.hi
  lohi : r.lo ≤ r.hi
  apart : ∀ (j : Nat) (q : Rec), j < i → rs[j]? = some q → r.mask.testBit j = false → apartOk q r.reads r.dst r.dom r.wr r.kept = true
  cutIn : r.dom = none → ∀ (j : Nat) (q : Rec), j < i → rs[j]? = some q → r.mask.testBit j = false → ∀ id, q.lo ≤ id → id < q.hi → inRs r.cut id = true
  order : ∀ (j : Nat) (q : Rec), j < i → rs[j]? = some q → q.hi ≤ r.lo

theorem heapAt_snoc {base : H} {rs : List Rec} {q : Rec} {i : Nat} (hi : i ≤ rs.length) (id : Nat) : heapAt base (rs ++ [q]) i id = heapAt base rs i id := by
  show ovr _ _ _ (rs ++ [q]) 0 _ id = _
  rw [ovr_append]
  have hb : Nat.blt rs.length i = false := by
    cases hb : Nat.blt rs.length i with
    | false => rfl
    | true => have := blt_true hb; omega
  simp [ovr, hb]

theorem heapAt_last {base : H} {rs : List Rec} {q : Rec} (id : Nat) : heapAt base (rs ++ [q]) (rs.length + 1) id = if q.makes id = true then q.hout.get id else heapAt base rs rs.length id := by
  show ovr _ _ _ (rs ++ [q]) 0 _ id = _
  rw [ovr_append]
  have hb : Nat.blt rs.length (rs.length + 1) = true := Nat.ble_eq_true_of_le (Nat.le_refl _)
  have hc : ovr Rec.makes (fun r k => r.hout.get k) (fun j => Nat.blt j (rs.length + 1)) rs 0 base.get id = heapAt base rs rs.length id := by
    refine ovr_congr rs 0 _ _ rfl fun j r hj _ => ?_
    have hjl := (List.getElem?_eq_some_iff.1 hj).1
    rw [Nat.zero_add]
    have h1 : Nat.blt j (rs.length + 1) = true := Nat.ble_eq_true_of_le (by omega)
    have h2 : Nat.blt j rs.length = true := Nat.ble_eq_true_of_le hjl
    rw [h1, h2]
  simp [ovr, hb, hc]

theorem slotAt_snoc {ts : List Value} {rs : List Rec} {q : Rec} {i : Nat} (hi : i ≤ rs.length) (t : Nat) : slotAt ts (rs ++ [q]) i t = slotAt ts rs i t := by
  show ovr _ _ _ (rs ++ [q]) 0 _ t = _
  rw [ovr_append]
  have hb : Nat.blt rs.length i = false := by
    cases hb : Nat.blt rs.length i with
    | false => rfl
    | true => have := blt_true hb; omega
  simp [ovr, hb]

theorem slotAt_last {ts : List Value} {rs : List Rec} {q : Rec} (t : Nat) : slotAt ts (rs ++ [q]) (rs.length + 1) t = if q.writes t = true then some q.val else slotAt ts rs rs.length t := by
  show ovr _ _ _ (rs ++ [q]) 0 _ t = _
  rw [ovr_append]
  have hb : Nat.blt rs.length (rs.length + 1) = true := Nat.ble_eq_true_of_le (Nat.le_refl _)
  have hc : ovr Rec.writes (fun r _ => some r.val) (fun j => Nat.blt j (rs.length + 1)) rs 0 (fun t => ts[t]?) t = slotAt ts rs rs.length t := by
    refine ovr_congr rs 0 _ _ rfl fun j r hj _ => ?_
    have hjl := (List.getElem?_eq_some_iff.1 hj).1
    rw [Nat.zero_add]
    have h1 : Nat.blt j (rs.length + 1) = true := Nat.ble_eq_true_of_le (by omega)
    have h2 : Nat.blt j rs.length = true := Nat.ble_eq_true_of_le hjl
    rw [h1, h2]
  simp [ovr, hb, hc]

theorem GoodR.snoc {Ty : Types} {F : FunT} {ops : Array Oper} {base : H} {ts0 : List Value} {rs : List Rec} {q : Rec} {i : Nat} {r : Rec} (hi : i < rs.length) (g : GoodR Ty F ops base ts0 rs i r) : GoodR Ty F ops base ts0 (rs ++ [q]) i r := by
  have hj : ∀ j, j < i → (rs ++ [q])[j]? = rs[j]? := fun j hj => List.getElem?_append_left (by omega)
  exact { g with
    mask := by rw [List.take_append_of_le_length (by omega)]; exact g.mask
    slots := fun t => by rw [slotAt_snoc (by omega)]; exact g.slots t
    hin := fun id => by rw [heapAt_snoc (by omega)]; exact g.hin id
    apart := fun j p h1 h2 => by rw [hj j h1] at h2; exact g.apart j p h1 h2
    cutIn := fun hd j p h1 h2 => by rw [hj j h1] at h2; exact g.cutIn hd j p h1 h2
    order := fun j p h1 h2 => by rw [hj j h1] at h2; exact g.order j p h1 h2 }

theorem apartAll_spec {m : Nat} {reads : List Nat} {dst : Option Nat} {dom : Option (List Nat)} {wr : Bool} {kept : List Nat} : ∀ (rs : List Rec) (i : Nat), apartAll m reads dst dom wr kept rs i = true →
    ∀ (j : Nat) (q : Rec), rs[j]? = some q → m.testBit (i + j) = false → apartOk q reads dst dom wr kept = true
  | [], i, _, j, q, hj, _ => by simp at hj
  | r :: rs, i, h, j, q, hj, hm => by
    simp only [apartAll, Bool.and_eq_true, Bool.or_eq_true] at h
    cases j with
    | zero =>
      simp only [List.getElem?_cons_zero, Option.some.injEq] at hj
      subst hj
      rcases h.1 with h1 | h1
      · rw [Nat.add_zero] at hm; rw [hm] at h1; cases h1
      · exact h1
    | succ j => exact apartAll_spec rs (i + 1) h.2 j q (by simpa using hj) (by rwa [show i + 1 + j = i + (j + 1) by omega])

theorem cutOf_spec {m : Nat} : ∀ (rs : List Rec) (i : Nat) (j : Nat) (q : Rec), rs[j]? = some q → m.testBit (i + j) = false → ∀ id, q.lo ≤ id → id < q.hi → inRs (cutOf m rs i) id = true
  | [], i, j, q, hj, _ => by simp at hj
  | r :: rs, i, j, q, hj, hm => by
    intro id h1 h2
    have hcons : ∀ l, inRs l id = true → inRs (cond (m.testBit i || Nat.beq r.lo r.hi) l ((r.lo, r.hi) :: l)) id = true := by
      intro l hl
      cases (m.testBit i || Nat.beq r.lo r.hi) with
      | true => exact hl
      | false =>
        show ((r.lo, r.hi) :: l).any _ = true
        rw [List.any_cons]
        have : (l.any fun p => Nat.ble p.1 id && Nat.blt id p.2) = true := hl
        rw [this]; simp
    cases j with
    | zero =>
      simp only [List.getElem?_cons_zero, Option.some.injEq] at hj
      subst hj
      rw [Nat.add_zero] at hm
      have hne : Nat.beq r.lo r.hi = false := by
        cases hb : Nat.beq r.lo r.hi with
        | false => rfl
        | true => have := Nat.eq_of_beq_eq_true hb; omega
      simp only [cutOf, hm, hne, Bool.or_self, cond_false, inRs, List.any_cons, Nat.ble_eq_true_of_le h1]
      have : Nat.blt id r.hi = true := Nat.ble_eq_true_of_le h2
      rw [this]; rfl
    | succ j =>
      exact hcons _ (cutOf_spec rs (i + 1) j q (by simpa using hj) (by rwa [show i + 1 + j = i + (j + 1) by omega]) id h1 h2)

theorem cutOf_lt {m : Nat} : ∀ (rs : List Rec) (i : Nat) (id : Nat), inRs (cutOf m rs i) id = true → ∃ (j : Nat) (q : Rec), rs[j]? = some q ∧ id < q.hi
  | [], i, id, h => by simp [cutOf, inRs] at h
  | r :: rs, i, id, h => by
    have ih : inRs (cutOf m rs (i + 1)) id = true → ∃ (j : Nat) (q : Rec), (r :: rs)[j]? = some q ∧ id < q.hi := fun h0 => by
      obtain ⟨j, q, a, b⟩ := cutOf_lt rs (i + 1) id h0
      exact ⟨j + 1, q, by simpa using a, b⟩
    simp only [cutOf] at h
    cases hc : (m.testBit i || Nat.beq r.lo r.hi) with
    | true => rw [hc] at h; exact ih h
    | false =>
      rw [hc] at h
      simp only [cond_false, inRs, List.any_cons, Bool.or_eq_true, Bool.and_eq_true] at h
      rcases h with h | h
      · exact ⟨0, r, rfl, blt_true h.2⟩
      · exact ih h

/-- The canonical state. -/
structure Can (Ty : Types) (F : FunT) (ops : Array Oper) (base : H) (ts0 : List Value) (rs : List Rec) (ts : List Value) (h : H) : Prop where
  good : ∀ (i : Nat) (r : Rec), rs[i]? = some r → GoodR Ty F ops base ts0 rs i r
  heap : ∀ id, h.get id = heapAt base rs rs.length id
  slots : ∀ t : Nat, ts[t]? = slotAt ts0 rs rs.length t
  n : base.n ≤ h.n
  hi : ∀ (i : Nat) (r : Rec), rs[i]? = some r → r.hi ≤ h.n
  dom : ∀ id o, h.get id = some o → id < h.n
  len : ts.length = ts0.length
  dstLt : ∀ (i : Nat) (r : Rec), rs[i]? = some r → ∀ d, r.dst = some d → d < ts0.length
  lw : h.lw ≤ base.lw
  keep : ∀ id, id < base.n → id < h.lw → h.get id = base.get id
  gone : ∀ id, id < base.n → base.get id = none → h.get id = none
  ro : ∀ id o, h.get id = some o → o.ro = true → base.get id = some o

theorem Can.push {Ty : Types} {F : FunT} {ops : Array Oper} {base : H} {ts0 : List Value} {rs : List Rec} {ts : List Value} {h h2 : H} {q : Rec} (c : Can Ty F ops base ts0 rs ts h)
    (hg : GoodR Ty F ops base ts0 (rs ++ [q]) rs.length q) (hh : ∀ id, h2.get id = if q.makes id = true then q.hout.get id else h.get id) (hn : h2.n = q.hi) (hlo : q.lo = h.n)
    (hlw : h2.lw ≤ h.lw) (hlwo : q.wr = true → h2.lw ≤ q.hout.lw) (hq : Q q.hin q.hout) (hdst : dstIn q.dst ts.length = true) : Can Ty F ops base ts0 (rs ++ [q]) (putT ts q.dst q.val) h2 where
  good := fun i r hi => by
    by_cases hlt : i < rs.length
    · rw [List.getElem?_append_left hlt] at hi
      exact (c.good i r hi).snoc hlt
    · rw [List.getElem?_append_right (by omega)] at hi
      have h0 : i = rs.length := by
        rcases Nat.lt_or_ge (i - rs.length) 1 with h | h
        · omega
        · rw [List.getElem?_eq_none (by simpa using h)] at hi; cases hi
      subst h0
      simp at hi
      subst hi
      exact hg
  heap := fun id => by
    rw [show (rs ++ [q]).length = rs.length + 1 by simp, heapAt_last, hh, c.heap]
  slots := fun t => by
    rw [show (rs ++ [q]).length = rs.length + 1 by simp, slotAt_last, ← c.slots]
    unfold putT Rec.writes
    cases hd : q.dst with
    | none => simp
    | some d =>
      rw [List.getElem?_set]
      by_cases e : d = t
      · subst e
        simp only [if_true, Nat.beq_refl]
        have hlt : d < ts.length := by rw [hd] at hdst; exact blt_true hdst
        rw [if_pos hlt]
      · have : Nat.beq d t = false := by
          cases hb : Nat.beq d t with
          | false => rfl
          | true => exact absurd (Nat.eq_of_beq_eq_true hb) e
        rw [if_neg e]
        show _ = if (Nat.beq d t) = true then _ else _
        rw [this]; simp
  n := by rw [hn]; have := hg.lohi; have := c.n; omega
  hi := fun i r hi => by
    by_cases hlt : i < rs.length
    · rw [List.getElem?_append_left hlt] at hi
      have := c.hi i r hi; have := hg.lohi; omega
    · rw [List.getElem?_append_right (by omega)] at hi
      have h0 : i = rs.length := by
        rcases Nat.lt_or_ge (i - rs.length) 1 with h | h
        · omega
        · rw [List.getElem?_eq_none (by simpa using h)] at hi; cases hi
      subst h0
      simp at hi
      subst hi
      omega
  dom := fun id o ho => by
    rw [hh] at ho
    rw [hn]
    split at ho
    · exact hg.top id o ho
    · have := c.dom id o ho; have := hg.lohi; omega
  len := by rw [putT_length]; exact c.len
  dstLt := fun i r hi => by
    by_cases hlt : i < rs.length
    · rw [List.getElem?_append_left hlt] at hi
      exact c.dstLt i r hi
    · rw [List.getElem?_append_right (by omega)] at hi
      have h0 : i = rs.length := by
        rcases Nat.lt_or_ge (i - rs.length) 1 with h | h
        · omega
        · rw [List.getElem?_eq_none (by simpa using h)] at hi; cases hi
      subst h0
      simp at hi
      subst hi
      intro d hd
      rw [hd] at hdst
      have := blt_true hdst
      have := c.len
      omega
  lw := by have := c.lw; omega
  keep := fun id h1 h3 => by
    rw [hh]
    split
    · rename_i hm
      have hlt : id < q.lo := by have := hg.lo; omega
      have hs2 : q.wr = true ∧ q.sees id = true := by
        unfold Rec.makes Rec.chg at hm
        simp only [Bool.or_eq_true, Bool.and_eq_true] at hm
        rcases hm with hm | hm
        · have := Nat.le_of_ble_eq_true hm.1; omega
        · exact ⟨hm.1.1, hm.2⟩
      have hs := hs2.2
      have hlwo := hlwo hs2.1
      rw [hq.keep id (by rw [hg.hinn]; exact hlt) (by omega), hg.hin, if_pos hs, heapAt_snoc (Nat.le_refl _), ← c.heap]
      exact c.keep id h1 (by omega)
    · exact c.keep id h1 (by omega)
  gone := fun id h1 h3 => by
    rw [hh]
    split
    · rename_i hm
      have hlt : id < q.lo := by have := hg.lo; omega
      have hs : q.sees id = true := by
        unfold Rec.makes at hm
        simp only [Bool.or_eq_true, Bool.and_eq_true] at hm
        rcases hm with hm | hm
        · have := Nat.le_of_ble_eq_true hm.1; omega
        · exact hm.2
      refine hq.gone id (by rw [hg.hinn]; exact hlt) ?_
      rw [hg.hin, if_pos hs, heapAt_snoc (Nat.le_refl _), ← c.heap]
      exact c.gone id h1 h3
    · exact c.gone id h1 h3
  ro := fun id o ho hr => by
    rw [hh] at ho
    split at ho
    · have h3 := hq.ro id o ho hr
      rw [hg.hin] at h3
      split at h3
      · rw [heapAt_snoc (Nat.le_refl _), ← c.heap] at h3
        exact c.ro id o h3 hr
      · cases h3
    · exact c.ro id o ho hr

theorem emptyH_get (n id : Nat) : (emptyH n).get id = none := rfl

theorem andb {a b : Bool} (h : (a && b) = true) : a = true ∧ b = true := by simpa using h

theorem drawEv_can {Ty : Types} {F : FunT} (hF : QT F) {ops : Array Oper} {base : H} {ts0 : List Value} : ∀ (l : List Oper) (rs : List Rec) (ts : List Value) (h : H) (rs' : List Rec) (ts' : List Value) (h' : H),
    (∀ i, l[i]? = ops[rs.length + i]?) → Can Ty F ops base ts0 rs ts h → drawEv Ty F ops l rs ts h = some (rs', ts', h') → Can Ty F ops base ts0 rs' ts' h' ∧ rs'.length = rs.length + l.length
  | [], rs, ts, h, rs', ts', h', _, c, he => by
    simp only [drawEv, Option.some.injEq, Prod.mk.injEq] at he
    obtain ⟨rfl, rfl, rfl⟩ := he
    exact ⟨c, by simp⟩
  | o :: l, rs, ts, h, rs', ts', h', hl, c, he => by
    have ho : ops[rs.length]? = some o := by have := hl 0; simpa using this.symm
    have hl' : ∀ (q : Rec) (i : Nat), l[i]? = ops[(rs ++ [q]).length + i]? := fun q i => by
      have := hl (i + 1)
      rw [show (rs ++ [q]).length + i = rs.length + (i + 1) by simp; omega]
      simpa using this
    have hheap : ∀ (q : Rec) id, heapAt base (rs ++ [q]) rs.length id = h.get id := fun q id => by rw [heapAt_snoc (Nat.le_refl _), ← c.heap]
    have hslot : ∀ (q : Rec) (t : Nat), slotAt ts0 (rs ++ [q]) rs.length t = ts[t]? := fun q t => by rw [slotAt_snoc (Nat.le_refl _), ← c.slots]
    have hget : ∀ (q : Rec) j, j < rs.length → (rs ++ [q])[j]? = rs[j]? := fun q j hj => List.getElem?_append_left hj
    have htake : ∀ q : Rec, (rs ++ [q]).take rs.length = rs := fun q => by simp
    have hne : ∀ a b : Nat, (!Nat.beq a b) = false → a = b := fun a b hb => Nat.eq_of_beq_eq_true (by simpa using hb)
    simp only [drawEv] at he
    split at he
    · -- not wanted
      rename_i m hm hw
      rcases condQ he with ⟨hc, he⟩ | ⟨_, he⟩
      · obtain ⟨hd, ha⟩ := andb hc
        have hap := apartAll_spec rs 0 ha
        have hmk : ∀ id, Rec.makes { mask := m, reads := readsOf ops o, dst := o.dst, val := skipA, dom := some [], cut := [], wr := false, lo := h.n, hi := h.n, hin := emptyH h.n, hout := emptyH h.n, want := false, ts := ts, o := o } id = false := by
          intro id
          simp only [Rec.makes, Rec.chg, Bool.false_and, Bool.or_false]
          cases h1 : (Nat.ble h.n id && Nat.blt id h.n) with
          | false => rfl
          | true => obtain ⟨a, b⟩ := andb h1; have := Nat.le_of_ble_eq_true a; have := blt_true b; omega
        have := drawEv_can hF l _ _ _ rs' ts' h' (hl' _) (c.push (q := { mask := m, reads := readsOf ops o, dst := o.dst, val := skipA, dom := some [], cut := [], wr := false, lo := h.n, hi := h.n, hin := emptyH h.n, hout := emptyH h.n, want := false, ts := ts, o := o }) (h2 := h)
          { op := ho, mask := by rw [htake]; exact hm, reads := rfl, dst := rfl, wants := hw, slots := fun t => (hslot _ t).symm, hin := fun id => by simp [Rec.sees, emptyH_get], seesLt := fun id h => by simp [Rec.sees] at h, lo := c.n, hinn := rfl, hinWf := (fun id o h => by simp [emptyH_get] at h), houtn := rfl,
            run := nofun, skip := fun _ => ⟨rfl, rfl, rfl⟩, keep := fun _ _ _ _ => rfl, noSee := fun _ _ _ => rfl, top := fun id o h => by simp [emptyH_get] at h, lohi := Nat.le_refl _,
            apart := fun j q hj hq hmj => hap j q (by rw [hget _ j hj] at hq; exact hq) (by rw [Nat.zero_add]; exact hmj), cutIn := nofun, order := fun j q hj hq => c.hi j q (by rw [hget _ j hj] at hq; exact hq) }
          (fun id => by rw [hmk id]; simp) rfl rfl (Nat.le_refl _) nofun (Q.refl _) hd) he
        exact ⟨this.1, by rw [this.2]; simp; omega⟩
      · cases he
    · -- wanted
      rename_i m hm hw
      split at he
      · -- some objects
        rename_i ids hdom
        rcases condQ he with ⟨hids, he⟩ | ⟨_, he⟩
        · split at he
          · rename_i v h1 hop
            rcases condQ he with ⟨hc, he⟩ | ⟨_, he⟩
            · obtain ⟨hd, ha⟩ := andb hc
              have hap := apartAll_spec rs 0 ha
              have hinn : (copyIds (emptyH h.n) h ids).n = h.n := copyIds_n _ _ _
              have hinl : (copyIds (emptyH h.n) h ids).lw = h.n := copyIds_lw _ _ _
              have hing : ∀ id, (copyIds (emptyH h.n) h ids).get id = if id ∈ ids then h.get id else none := fun id => by rw [copyIds_get, emptyH_get]
              have hinWf : Wf (copyIds (emptyH h.n) h ids) := by
                intro id o' ho'
                rw [hing] at ho'
                split at ho'
                · rw [hinn]; exact c.dom id o' ho'
                · cases ho'
              have hq := aOp_Q hF hinWf hop
              have hlt : ∀ id, id ∈ ids → id < h.n := fun id hid => blt_true (List.all_eq_true.1 hids id hid)
              have hn1 : h.n ≤ h1.n := by have := hq.n; rw [hinn] at this; exact this
              have htop : ∀ id o, h1.get id = some o → id < h1.n := hq.dom hinWf
              have hkeep : (!Nat.beq h1.lw h.n) = false → ∀ id, id < h.n → h1.get id = (copyIds (emptyH h.n) h ids).get id := fun hwr id hid => hq.keep id (by rw [hinn]; exact hid) (by rw [hne _ _ hwr]; exact hid)
              have hgone : ∀ id, id < h.n → id ∉ ids → h1.get id = none := fun id hid hni => hq.gone id (by rw [hinn]; exact hid) (by rw [hing, if_neg hni])
              have := drawEv_can hF l _ _ _ rs' ts' h' (hl' _) (c.push (q := { mask := m, reads := readsOf ops o, dst := o.dst, val := v, dom := some ids, cut := [], wr := !Nat.beq h1.lw h.n, lo := h.n, hi := h1.n, hin := copyIds (emptyH h.n) h ids, hout := h1, want := true, ts := ts, o := o })
                (h2 := { copyIds h h1 (ids ++ List.range' h.n (h1.n - h.n)) with n := h1.n, lw := min h.lw h1.lw })
                { op := ho, mask := by rw [htake]; exact hm, reads := rfl, dst := rfl, wants := hw, slots := fun t => (hslot _ t).symm,
                  hin := fun id => by rw [hing, hheap]; simp [Rec.sees], seesLt := fun id h => hlt id (by simpa [Rec.sees] using h), lo := c.n, hinn := hinn, hinWf := hinWf, houtn := rfl,
                  run := fun _ => hop, skip := nofun, keep := fun id hc hid _ => hkeep (by simpa [Rec.chg] using hc) id hid, noSee := fun id h1 h2 => hgone id h1 (by simpa [Rec.sees] using h2), top := htop, lohi := hn1,
                  apart := fun j q hj hq hmj => hap j q (by rw [hget _ j hj] at hq; exact hq) (by rw [Nat.zero_add]; exact hmj), cutIn := nofun, order := fun j q hj hq => c.hi j q (by rw [hget _ j hj] at hq; exact hq) }
                (fun id => by
                  show (copyIds h h1 _).get id = _
                  rw [copyIds_get]
                  have hmem : id ∈ ids ++ List.range' h.n (h1.n - h.n) ↔ id ∈ ids ∨ (h.n ≤ id ∧ id < h.n + (h1.n - h.n)) := by rw [List.mem_append, List.mem_range'_1]
                  by_cases hr : h.n ≤ id ∧ id < h1.n
                  · have hm1 : Rec.makes { mask := m, reads := readsOf ops o, dst := o.dst, val := v, dom := some ids, cut := [], wr := !Nat.beq h1.lw h.n, lo := h.n, hi := h1.n, hin := copyIds (emptyH h.n) h ids, hout := h1, want := true, ts := ts, o := o } id = true := by
                      have : Nat.blt id h1.n = true := Nat.ble_eq_true_of_le hr.2
                      simp [Rec.makes, Nat.ble_eq_true_of_le hr.1, this]
                    rw [if_pos (hmem.2 (.inr (by omega))), if_pos hm1]
                  · by_cases hi : id ∈ ids
                    · rw [if_pos (hmem.2 (.inl hi))]
                      split
                      · rfl
                      · rename_i hnm
                        have hwr : (!Nat.beq h1.lw h.n) = false := by
                          cases hwr : (!Nat.beq h1.lw h.n) with
                          | false => rfl
                          | true => exfalso; apply hnm; simp only [Rec.makes, Rec.chg, Rec.sees, hwr]; simp [hi]
                        rw [hkeep hwr id (hlt id hi), hing, if_pos hi]
                    · rw [if_neg (fun h0 => by rcases hmem.1 h0 with h0 | h0; exact hi h0; omega)]
                      have hm1 : Rec.makes { mask := m, reads := readsOf ops o, dst := o.dst, val := v, dom := some ids, cut := [], wr := !Nat.beq h1.lw h.n, lo := h.n, hi := h1.n, hin := copyIds (emptyH h.n) h ids, hout := h1, want := true, ts := ts, o := o } id = false := by
                        simp only [Rec.makes, Rec.chg, Rec.sees]
                        have h0 : ids.contains id = false := by simpa using hi
                        rw [h0]
                        cases h2 : (Nat.ble h.n id && Nat.blt id h1.n) with
                        | false => simp
                        | true => obtain ⟨a, b⟩ := andb h2; exact absurd ⟨Nat.le_of_ble_eq_true a, blt_true b⟩ hr
                      rw [hm1]; simp)
                rfl rfl (Nat.min_le_left _ _) (fun _ => Nat.min_le_right _ _) hq hd) he
              exact ⟨this.1, by rw [this.2]; simp; omega⟩
            · cases he
          · cases he
        · cases he
      · -- all but some
        rename_i hdom
        split at he
        · rename_i v h1 hop
          rcases condQ he with ⟨hc, he⟩ | ⟨_, he⟩
          · obtain ⟨hd, ha⟩ := andb hc
            have hap := apartAll_spec rs 0 ha
            have hing : ∀ id, ({ copyIds h (emptyH h.n) (idsOf (cutOf m rs 0)) with lw := h.n } : H).get id = if inRs (cutOf m rs 0) id = true then none else h.get id := fun id => by
              show (copyIds h (emptyH h.n) _).get id = _
              rw [copyIds_get, emptyH_get]
              by_cases hi : inRs (cutOf m rs 0) id = true
              · rw [if_pos ((mem_idsOf _).2 hi), if_pos hi]
              · rw [if_neg (fun h0 => hi ((mem_idsOf _).1 h0)), if_neg hi]
            have hinn : ({ copyIds h (emptyH h.n) (idsOf (cutOf m rs 0)) with lw := h.n } : H).n = h.n := copyIds_n _ _ _
            have hinWf : Wf ({ copyIds h (emptyH h.n) (idsOf (cutOf m rs 0)) with lw := h.n } : H) := by
              intro id o' ho'
              rw [hing] at ho'
              split at ho'
              · cases ho'
              · rw [hinn]; exact c.dom id o' ho'
            have hq := aOp_Q hF hinWf hop
            have hn1 : h.n ≤ h1.n := by have := hq.n; rw [hinn] at this; exact this
            have htop : ∀ id o, h1.get id = some o → id < h1.n := hq.dom hinWf
            have hkeep : (!Nat.beq h1.lw h.n) = false → ∀ id, id < h.n → h1.get id = ({ copyIds h (emptyH h.n) (idsOf (cutOf m rs 0)) with lw := h.n } : H).get id := fun hwr id hid => hq.keep id (by rw [hinn]; exact hid) (by rw [hne _ _ hwr]; exact hid)
            have hkept : ∀ id, (keptOf h h1 (List.range h.n)).contains id = true → h1.get id = h.get id := fun id hid => by
              have h0 : id ∈ keptOf h h1 (List.range h.n) := by simpa using hid
              have := (List.mem_filter.1 h0).2
              rw [Bool.and_eq_true] at this
              exact eqO_sound this.2
            have hgone : ∀ id, id < h.n → inRs (cutOf m rs 0) id = true → h1.get id = none := fun id hid hni => hq.gone id (by rw [hinn]; exact hid) (by rw [hing, if_pos hni])
            have hsees : ∀ id, Rec.sees { mask := m, reads := readsOf ops o, dst := o.dst, val := v, dom := none, cut := cutOf m rs 0, wr := !Nat.beq h1.lw h.n, lo := h.n, hi := h1.n, hin := { copyIds h (emptyH h.n) (idsOf (cutOf m rs 0)) with lw := h.n }, hout := h1, want := true, ts := ts, o := o, kept := keptOf h h1 (List.range h.n) } id = true ↔ (id < h.n ∧ inRs (cutOf m rs 0) id = false) := by
              intro id
              simp only [Rec.sees, Bool.and_eq_true, Bool.not_eq_true']
              constructor
              · rintro ⟨a, b⟩; exact ⟨blt_true a, b⟩
              · rintro ⟨a, b⟩; exact ⟨Nat.ble_eq_true_of_le a, b⟩
            have := drawEv_can hF l _ _ _ rs' ts' h' (hl' _) (c.push (q := { mask := m, reads := readsOf ops o, dst := o.dst, val := v, dom := none, cut := cutOf m rs 0, wr := !Nat.beq h1.lw h.n, lo := h.n, hi := h1.n, hin := { copyIds h (emptyH h.n) (idsOf (cutOf m rs 0)) with lw := h.n }, hout := h1, want := true, ts := ts, o := o, kept := keptOf h h1 (List.range h.n) })
              (h2 := { copyIds h1 h (idsOf (cutOf m rs 0)) with n := h1.n, lw := min h.lw h1.lw })
              { op := ho, mask := by rw [htake]; exact hm, reads := rfl, dst := rfl, wants := hw, slots := fun t => (hslot _ t).symm,
                hin := fun id => by
                  rw [hing, hheap]
                  by_cases hs : inRs (cutOf m rs 0) id = true
                  · rw [if_pos hs, if_neg (fun h0 => by have := ((hsees id).1 h0).2; rw [hs] at this; cases this)]
                  · rw [if_neg hs]
                    by_cases hlt : id < h.n
                    · rw [if_pos ((hsees id).2 ⟨hlt, by simpa using hs⟩)]
                    · rw [if_neg (fun h0 => hlt ((hsees id).1 h0).1)]
                      cases hg : h.get id with
                      | none => rfl
                      | some o => exact absurd (c.dom id o hg) hlt
                seesLt := fun id h0 => ((hsees id).1 h0).1, lo := c.n, hinn := hinn, hinWf := hinWf, houtn := rfl,
                run := fun _ => hop, skip := nofun, keep := fun id hc hid hse => by
                  cases hwr : (!Nat.beq h1.lw h.n) with
                  | false => exact hkeep hwr id hid
                  | true =>
                    simp only [Rec.chg, hwr, Bool.true_and, Bool.not_eq_false'] at hc
                    rw [hing, if_neg (fun h0 => by have := ((hsees id).1 hse).2; rw [h0] at this; cases this)]
                    exact hkept id hc
                , noSee := fun id g1 g2 => hgone id g1 (by
                  cases hs : inRs (cutOf m rs 0) id with
                  | true => rfl
                  | false => rw [(hsees id).2 ⟨g1, hs⟩] at g2; cases g2), top := htop, lohi := hn1,
                apart := fun j q hj hq hmj => hap j q (by rw [hget _ j hj] at hq; exact hq) (by rw [Nat.zero_add]; exact hmj),
                cutIn := fun _ j q hj hq hmj id g1 g2 => cutOf_spec rs 0 j q (by rw [hget _ j hj] at hq; exact hq) (by rw [Nat.zero_add]; exact hmj) id g1 g2, order := fun j q hj hq => c.hi j q (by rw [hget _ j hj] at hq; exact hq) }
              (fun id => by
                show (copyIds h1 h _).get id = _
                rw [copyIds_get]
                by_cases hs : inRs (cutOf m rs 0) id = true
                · rw [if_pos ((mem_idsOf _).2 hs)]
                  obtain ⟨j, q, hjq, hlq⟩ := cutOf_lt rs 0 id hs
                  have hlt := c.hi j q hjq
                  have hm1 : Rec.makes { mask := m, reads := readsOf ops o, dst := o.dst, val := v, dom := none, cut := cutOf m rs 0, wr := !Nat.beq h1.lw h.n, lo := h.n, hi := h1.n, hin := { copyIds h (emptyH h.n) (idsOf (cutOf m rs 0)) with lw := h.n }, hout := h1, want := true, ts := ts, o := o, kept := keptOf h h1 (List.range h.n) } id = false := by
                    simp only [Rec.makes, Rec.chg, Rec.sees, hs, Bool.not_true, Bool.and_false, Bool.or_false]
                    cases hb : Nat.ble h.n id with
                    | false => rfl
                    | true => have := Nat.le_of_ble_eq_true hb; omega
                  rw [hm1]; simp
                · rw [if_neg (fun h0 => hs ((mem_idsOf _).1 h0))]
                  split
                  · rfl
                  · rename_i hnm
                    by_cases hr : h.n ≤ id
                    · by_cases hr2 : id < h1.n
                      · exfalso; apply hnm
                        have : Nat.blt id h1.n = true := Nat.ble_eq_true_of_le hr2
                        simp [Rec.makes, Nat.ble_eq_true_of_le hr, this]
                      · cases hg : h1.get id with
                        | some o => exact absurd (htop id o hg) hr2
                        | none => cases hg2 : h.get id with
                          | none => rfl
                          | some o => have := c.dom id o hg2; omega
                    · have hlt : id < h.n := by omega
                      cases hwr : (!Nat.beq h1.lw h.n) with
                      | false => rw [hkeep hwr id hlt, hing, if_neg hs]
                      | true =>
                        cases hk : (keptOf h h1 (List.range h.n)).contains id with
                        | true => exact hkept id hk
                        | false => exact absurd (Bool.or_eq_true_iff.2 (.inr (Bool.and_eq_true_iff.2 ⟨Bool.and_eq_true_iff.2 ⟨hwr, by show (!(keptOf h h1 (List.range h.n)).contains id) = true; rw [hk]; rfl⟩, (hsees id).2 ⟨hlt, by simpa using hs⟩⟩))) hnm)
              rfl rfl (Nat.min_le_left _ _) (fun _ => Nat.min_le_right _ _) hq hd) he
            exact ⟨this.1, by rw [this.2]; simp; omega⟩
          · cases he
        · cases he
    · cases he
end
end Go.Ab
