/- An abstract heap for walks: a finite map from numbers to objects, and how a world bears it. Conditions: none. -/
import Derived.Test.YtcgoamfjpnkiiaaGreatAbA0
import Derived.Orders
import Derived.LoopN
import Derived.Scope
import Derived.Below
set_option linter.all false
namespace Go.Ab
noncomputable section
open Go.RowKit

/-- A finite map from numbers, that the kernel can run. -/
inductive Tr (α : Type) where
  | leaf
  | node (l : Tr α) (v : Option α) (r : Tr α)

namespace Tr
variable {α : Type}

def get (t : Tr α) : Nat → Option α :=
  Tr.rec (motive := fun _ => Nat → Option α) (fun _ => none) (fun _ v _ ihl ihr k =>
    Bool.rec (motive := fun _ => Option α) (Bool.rec (motive := fun _ => Option α) (ihr (Nat.sub (Nat.div k 2) 1)) (ihl (Nat.div k 2)) (Nat.beq (Nat.mod k 2) 1)) v (Nat.beq k 0)) t
theorem get_leaf (k : Nat) : (leaf : Tr α).get k = none := rfl
theorem get_node (l : Tr α) (v : Option α) (r : Tr α) (k : Nat) : (node l v r).get k = cond (Nat.beq k 0) v (cond (Nat.beq (k % 2) 1) (l.get (k / 2)) (r.get (k / 2 - 1))) := by
  show Bool.rec (motive := fun _ => Option α) (Bool.rec (motive := fun _ => Option α) (r.get (Nat.sub (Nat.div k 2) 1)) (l.get (Nat.div k 2)) (Nat.beq (Nat.mod k 2) 1)) v (Nat.beq k 0) = _
  cases Nat.beq k 0
  · show Bool.rec (motive := fun _ => Option α) (r.get (k / 2 - 1)) (l.get (k / 2)) (Nat.beq (k % 2) 1) = _
    cases Nat.beq (k % 2) 1 <;> rfl
  · rfl

def left : Tr α → Tr α
  | .leaf => .leaf
  | .node l _ _ => l
def right : Tr α → Tr α
  | .leaf => .leaf
  | .node _ _ r => r
def val : Tr α → Option α
  | .leaf => none
  | .node _ v _ => v

def putF (f : Nat) : Tr α → Nat → Option α → Tr α :=
  Nat.rec (motive := fun _ => Tr α → Nat → Option α → Tr α) (fun t _ _ => t) (fun _ ih t k v =>
    Bool.rec (motive := fun _ => Tr α) (Bool.rec (motive := fun _ => Tr α) (.node t.left t.val (ih t.right (Nat.sub (Nat.div k 2) 1) v)) (.node (ih t.left (Nat.div k 2) v) t.val t.right) (Nat.beq (Nat.mod k 2) 1)) (.node t.left v t.right) (Nat.beq k 0)) f
theorem putF_zero (t : Tr α) (k : Nat) (v : Option α) : putF 0 t k v = t := rfl
theorem putF_succ (f : Nat) (t : Tr α) (k : Nat) (v : Option α) : putF (f + 1) t k v = cond (Nat.beq k 0) (.node t.left v t.right)
      (cond (Nat.beq (k % 2) 1) (.node (putF f t.left (k / 2) v) t.val t.right) (.node t.left t.val (putF f t.right (k / 2 - 1) v))) := by
  show Bool.rec (motive := fun _ => Tr α) (Bool.rec (motive := fun _ => Tr α) (.node t.left t.val (putF f t.right (Nat.sub (Nat.div k 2) 1) v)) (.node (putF f t.left (Nat.div k 2) v) t.val t.right) (Nat.beq (Nat.mod k 2) 1)) (.node t.left v t.right) (Nat.beq k 0) = _
  cases Nat.beq k 0
  · show Bool.rec (motive := fun _ => Tr α) _ _ (Nat.beq (k % 2) 1) = _
    cases Nat.beq (k % 2) 1 <;> rfl
  · rfl

def put (t : Tr α) (k : Nat) (v : Option α) : Tr α := putF (k + 1) t k v

theorem get_eq (t : Tr α) (k : Nat) : t.get k = if k = 0 then t.val else if k % 2 = 1 then t.left.get (k / 2) else t.right.get (k / 2 - 1) := by
  cases t with
  | leaf => simp [get_leaf, val, left, right]
  | node l v r =>
    by_cases h : k = 0
    · subst h; simp [get_node, val]
    · have h1 : Nat.beq k 0 = false := by cases k <;> simp_all [Nat.beq]
      by_cases h2 : k % 2 = 1
      · have h3 : Nat.beq (k % 2) 1 = true := by rw [h2]; rfl
        simp [get_node, h, h1, h2, h3, left]
      · have h3 : Nat.beq (k % 2) 1 = false := by
          cases hb : Nat.beq (k % 2) 1 with
          | false => rfl
          | true => exact absurd (Nat.eq_of_beq_eq_true hb) h2
        simp [get_node, h, h1, h2, h3, right]

theorem putF_eq (f : Nat) (t : Tr α) (k : Nat) (v : Option α) : putF (f + 1) t k v =
    if k = 0 then .node t.left v t.right else if k % 2 = 1 then .node (putF f t.left (k / 2) v) t.val t.right else .node t.left t.val (putF f t.right (k / 2 - 1) v) := by
  by_cases h : k = 0
  · subst h; simp [putF_succ]
  · have h1 : Nat.beq k 0 = false := by cases k <;> simp_all [Nat.beq]
    by_cases h2 : k % 2 = 1
    · simp [putF_succ, h, h1, h2]
    · have h3 : Nat.beq (k % 2) 1 = false := by
        cases hb : Nat.beq (k % 2) 1 with
        | false => rfl
        | true => exact absurd (Nat.eq_of_beq_eq_true hb) h2
      simp [putF_succ, h, h1, h2, h3]

theorem get_putF : ∀ (f : Nat) (t : Tr α) (k k' : Nat) (v : Option α), k < f → (putF f t k v).get k' = if k' = k then v else t.get k' := by
  intro f
  induction f with
  | zero => intro t k k' v h; omega
  | succ f ih =>
    intro t k k' v h
    rw [putF_eq]
    by_cases hk : k = 0
    · subst hk
      rw [if_pos rfl, get_eq, get_eq t]
      by_cases hk' : k' = 0 <;> simp [hk', val, left, right]
    · rw [if_neg hk]
      by_cases hm : k % 2 = 1
      · rw [if_pos hm, get_eq, get_eq t]
        by_cases hk' : k' = 0
        · subst hk'; rw [if_pos rfl, if_neg (by omega)]; simp [val]
        · rw [if_neg hk', if_neg hk']
          by_cases hm' : k' % 2 = 1
          · rw [if_pos hm', if_pos hm']
            show (putF f t.left (k / 2) v).get (k' / 2) = _
            rw [ih _ _ _ _ (by omega)]
            by_cases e : k' = k
            · subst e; simp
            · rw [if_neg e, if_neg (by omega)]
          · rw [if_neg hm', if_neg hm', if_neg (by intro e; subst e; exact hm' hm)]; rfl
      · rw [if_neg hm, get_eq, get_eq t]
        by_cases hk' : k' = 0
        · subst hk'; rw [if_pos rfl, if_neg (by omega)]; simp [val]
        · rw [if_neg hk', if_neg hk']
          by_cases hm' : k' % 2 = 1
          · rw [if_pos hm', if_pos hm', if_neg (by intro e; subst e; exact hm hm')]; rfl
          · rw [if_neg hm', if_neg hm']
            show (putF f t.right (k / 2 - 1) v).get (k' / 2 - 1) = _
            rw [ih _ _ _ _ (by omega)]
            by_cases e : k' = k
            · subst e; simp
            · rw [if_neg e, if_neg (by omega)]

theorem get_put (t : Tr α) (k k' : Nat) (v : Option α) : (t.put k v).get k' = if k' = k then v else t.get k' :=
  get_putF _ _ _ _ _ (Nat.lt_succ_self k)
end Tr

/-- An object of the abstract heap: a row of cells (what is known of it), or a map. 'tag': a number of a type; 'ro': never written. -/
inductive AObj where
  | cells (cs : List Value) (tag : TypeId) (ro : Bool)
  | map (es : List MapEntry) (clock : Nat) (tag : TypeId)
  | iter (s : ByteArray) (pos : Nat)
  | miter (m : Option Nat) (since : Nat) (seen : List Nat) (last : Nat)

def AObj.ro : AObj → Bool
  | .cells _ _ ro => ro
  | _ => false
def AObj.tag : AObj → TypeId
  | .cells _ t _ => t
  | .map _ _ t => t
  | .iter .. => 0
  | .miter .. => 0

/-- The abstract heap: its objects, the next number, the least number that was written since it was asked last. -/
structure H where
  m : Tr AObj
  n : Nat
  lw : Nat

namespace H
def get (h : H) (id : Nat) : Option AObj := h.m.get id
def set (h : H) (id : Nat) (o : AObj) : H := { m := h.m.put id (some o), n := h.n, lw := cond (Nat.blt id h.lw) id h.lw }
def del (h : H) (id : Nat) : H := { m := h.m.put id none, n := h.n, lw := cond (Nat.blt id h.lw) id h.lw }
def new (h : H) (o : AObj) : H := { m := h.m.put h.n (some o), n := h.n + 1, lw := h.lw }
@[simp] theorem get_set (h : H) (id k : Nat) (o : AObj) : (h.set id o).get k = if k = id then some o else h.get k := Tr.get_put ..
@[simp] theorem get_del (h : H) (id k : Nat) : (h.del id).get k = if k = id then none else h.get k := Tr.get_put ..
@[simp] theorem get_new (h : H) (k : Nat) (o : AObj) : (h.new o).get k = if k = h.n then some o else h.get k := Tr.get_put ..
@[simp] theorem n_set (h : H) (id : Nat) (o : AObj) : (h.set id o).n = h.n := rfl
@[simp] theorem n_del (h : H) (id : Nat) : (h.del id).n = h.n := rfl
@[simp] theorem n_new (h : H) (o : AObj) : (h.new o).n = h.n + 1 := rfl
@[simp] theorem lw_new (h : H) (o : AObj) : (h.new o).lw = h.lw := rfl
theorem blt_cond (a b : Nat) : (cond (Nat.blt a b) a b) = min a b := by
  by_cases h : a < b
  · have : Nat.blt a b = true := Nat.ble_eq_true_of_le h
    rw [this]; simp; omega
  · have : Nat.blt a b = false := by
      cases hb : Nat.blt a b with
      | false => rfl
      | true => exact absurd (Nat.le_of_ble_eq_true hb) h
    rw [this]; simp; omega
@[simp] theorem lw_set (h : H) (id : Nat) (o : AObj) : (h.set id o).lw = min id h.lw := blt_cond ..
@[simp] theorem lw_del (h : H) (id : Nat) : (h.del id).lw = min id h.lw := blt_cond ..
end H

/-- Where an object lies in a world: its block, its first cell, how many cells the block has. -/
structure Loc where
  blk : Nat
  off : Nat
  sz : Nat

abbrev Ren := Nat → Option Loc

/-- A capacity that hangs on the tape: of elements of e cells. -/
def UNK : Nat := 2 ^ 63

inductive VR (R : Ren) : Value → Value → Prop where
  | bool (b : Bool) : VR R (.bool b) (.bool b)
  | int (k : IntKind) (n : Int) : VR R (.int k n) (.int k n)
  | float (k : FloatKind) (b : Nat) : VR R (.float k b) (.float k b)
  | complex (k : FloatKind) (a b : Nat) : VR R (.complex k a b) (.complex k a b)
  | string (s : ByteArray) : VR R (.string s) (.string s)
  | pnil : VR R (.pointer none) (.pointer none)
  | ptr (id off : Nat) (l : Loc) (h : R id = some l) : VR R (.pointer (some ⟨id, off, none⟩)) (.pointer (some ⟨l.blk, l.off + off, none⟩))
  | snil (l c : Nat) : VR R (.slice none l c) (.slice none l c)
  | slice (id off len cap : Nat) (l : Loc) (h : R id = some l) (hc : cap < UNK) :
      VR R (.slice (some ⟨id, off, none⟩) len cap) (.slice (some ⟨l.blk, l.off + off, none⟩) len cap)
  | sliceU (id off len e cap : Nat) (a : Addr) (l : Loc) (h : R id = some l) (hl : len ≤ cap)
      (ha : cap = 0 ∨ (a = ⟨l.blk, l.off + off, none⟩ ∧ l.off + off + cap * e = l.sz)) :
      VR R (.slice (some ⟨id, off, none⟩) len (UNK + e)) (.slice (some a) len cap)
  | mnil : VR R (.map none) (.map none)
  | map (id : Nat) (l : Loc) (h : R id = some l) : VR R (.map (some id)) (.map (some l.blk))
  | nilFunc : VR R .nilFunc .nilFunc
  | func (fn : Fn) (xs ys us vs : Array Value) (hs : xs.size = ys.size) (h : ∀ (i : Nat) (x y : Value), xs[i]? = some x → ys[i]? = some y → VR R x y)
      (hs' : us.size = vs.size) (h' : ∀ (i : Nat) (x y : Value), us[i]? = some x → vs[i]? = some y → VR R x y) : VR R (.func fn xs us) (.func fn ys vs)
  | nilIface : VR R .nilIface .nilIface
  | agg (xs ys : Array Value) (hs : xs.size = ys.size) (h : ∀ (i : Nat) (x y : Value), xs[i]? = some x → ys[i]? = some y → VR R x y) : VR R (.agg xs) (.agg ys)
  | tuple (xs ys : Array Value) (hs : xs.size = ys.size) (h : ∀ (i : Nat) (x y : Value), xs[i]? = some x → ys[i]? = some y → VR R x y) : VR R (.tuple xs) (.tuple ys)

def AR (R : Ren) (xs ys : Array Value) : Prop := xs.size = ys.size ∧ ∀ (i : Nat) (x y : Value), xs[i]? = some x → ys[i]? = some y → VR R x y
def LR (R : Ren) (xs ys : List Value) : Prop := xs.length = ys.length ∧ ∀ (i : Nat) (x y : Value), xs[i]? = some x → ys[i]? = some y → VR R x y

def Ren.le (R R' : Ren) : Prop := ∀ id l, R id = some l → R' id = some l
theorem Ren.le_refl (R : Ren) : R.le R := fun _ _ h => h
theorem Ren.le_trans {R R' R'' : Ren} (h : R.le R') (h' : R'.le R'') : R.le R'' := fun _ _ x => h' _ _ (h _ _ x)

theorem VR.le {R R' : Ren} (hle : R.le R') {v v' : Value} (h : VR R v v') : VR R' v v' := by
  induction h with
  | bool b => exact .bool b
  | int k n => exact .int k n
  | float k b => exact .float k b
  | complex k a b => exact .complex k a b
  | string s => exact .string s
  | pnil => exact .pnil
  | ptr id off l h => exact .ptr id off l (hle _ _ h)
  | snil l c => exact .snil l c
  | slice id off len cap l h hc => exact .slice id off len cap l (hle _ _ h) hc
  | sliceU id off len e cap a l h hl ha => exact .sliceU id off len e cap a l (hle _ _ h) hl ha
  | mnil => exact .mnil
  | map id l h => exact .map id l (hle _ _ h)
  | nilFunc => exact .nilFunc
  | func fn xs ys us vs hs _ hs' _ ih ih' => exact .func fn xs ys us vs hs ih hs' ih'
  | nilIface => exact .nilIface
  | agg xs ys hs _ ih => exact .agg xs ys hs ih
  | tuple xs ys hs _ ih => exact .tuple xs ys hs ih

theorem AR.le {R R' : Ren} (hle : R.le R') {v v' : Array Value} (h : AR R v v') : AR R' v v' := ⟨h.1, fun i x y hx hy => (h.2 i x y hx hy).le hle⟩
theorem LR.le {R R' : Ren} (hle : R.le R') {v v' : List Value} (h : LR R v v') : LR R' v v' := ⟨h.1, fun i x y hx hy => (h.2 i x y hx hy).le hle⟩

/-- A world bears an object. -/
def OR (R : Ren) (w : World) (id : Nat) : AObj → Prop
  | .cells cs _ ro => ∃ l c e fr, R id = some l ∧ w.heap[l.blk]? = some (.cells c e fr) ∧ l.sz = c.size ∧ l.off + cs.length ≤ c.size ∧
      (∀ (i : Nat) (v : Value), cs[i]? = some v → ∃ v', c[l.off + i]? = some v' ∧ VR R v v') ∧ (ro = false → l.off = 0 ∧ (fr.1 = fr.2 ∨ c.size ≤ fr.1))
  | .map es clock _ => ∃ l es', R id = some l ∧ w.heap[l.blk]? = some (.map es' clock) ∧ es.length = es'.size ∧
      ∀ (i : Nat) (x y : MapEntry), es[i]? = some x → es'[i]? = some y → VR R x.key y.key ∧ VR R x.val y.val ∧ x.born = y.born
  | .iter s pos => ∃ l, R id = some l ∧ w.heap[l.blk]? = some (.stringIter s pos) ∧ l.off = 0
  | .miter m since seen last => ∃ l m', R id = some l ∧ w.heap[l.blk]? = some (.mapIter m' since seen.toArray last) ∧ l.off = 0 ∧ (m = none ∧ m' = none ∨ ∃ k lm, m = some k ∧ R k = some lm ∧ m' = some lm.blk)

theorem fr_ok {fr : Nat × Nat} {n i : Nat} (h : fr.1 = fr.2 ∨ n ≤ fr.1) (hi : i < n) : ¬ (fr.1 ≤ i ∧ i < fr.2) := by omega

/-- A world bears an abstract heap. -/
def Wf (h : H) : Prop := ∀ id o, h.get id = some o → id < h.n

structure Rel (h : H) (R : Ren) (w : World) : Prop where
  wf : Wf h
  obj : ∀ id o, h.get id = some o → OR R w id o
  inj : ∀ id id' o o' l l', h.get id = some o → h.get id' = some o' → id ≠ id' → o.ro = false → R id = some l → R id' = some l' → l.blk ≠ l'.blk

/-- A block of the world that the abstract heap may write. -/
def Owned (h : H) (R : Ren) (b : Nat) : Prop := ∃ id o l, h.get id = some o ∧ o.ro = false ∧ R id = some l ∧ l.blk = b

theorem OR.loc {R : Ren} {w : World} {id : Nat} {o : AObj} (h : OR R w id o) : ∃ l ob, R id = some l ∧ w.heap[l.blk]? = some ob := by
  cases o with
  | cells cs t ro => obtain ⟨l, c, e, fr, h1, h2, _⟩ := h; exact ⟨l, _, h1, h2⟩
  | map es cl t => obtain ⟨l, es', h1, h2, _⟩ := h; exact ⟨l, _, h1, h2⟩
  | iter s p => obtain ⟨l, h1, h2, _⟩ := h; exact ⟨l, _, h1, h2⟩
  | miter m s p t => obtain ⟨l, m', h1, h2, _⟩ := h; exact ⟨l, _, h1, h2⟩

theorem OR.mono {R R' : Ren} {w w' : World} {id : Nat} {o : AObj} (h : OR R w id o) (hle : R.le R') (hw : ∀ l, R id = some l → w'.heap[l.blk]? = w.heap[l.blk]?) : OR R' w' id o := by
  cases o with
  | cells cs t ro =>
    obtain ⟨l, c, e, fr, h1, h2, h3, h4, h5, h6⟩ := h
    exact ⟨l, c, e, fr, hle _ _ h1, by rw [hw l h1]; exact h2, h3, h4, fun i v hv => let ⟨v', a, b⟩ := h5 i v hv; ⟨v', a, b.le hle⟩, h6⟩
  | map es cl t =>
    obtain ⟨l, es', h1, h2, h3, h4⟩ := h
    exact ⟨l, es', hle _ _ h1, by rw [hw l h1]; exact h2, h3, fun i x y hx hy => let ⟨a, b, c⟩ := h4 i x y hx hy; ⟨a.le hle, b.le hle, c⟩⟩
  | iter s p =>
    obtain ⟨l, h1, h2, h3⟩ := h
    exact ⟨l, hle _ _ h1, by rw [hw l h1]; exact h2, h3⟩
  | miter m s p t =>
    obtain ⟨l, m', h1, h2, h3, h4⟩ := h
    refine ⟨l, m', hle _ _ h1, by rw [hw l h1]; exact h2, h3, ?_⟩
    rcases h4 with h4 | ⟨k, lm, a, b, c⟩
    · exact .inl h4
    · exact .inr ⟨k, lm, a, hle _ _ b, c⟩

theorem Rel.congr {h h2 : H} {R : Ren} {w : World} (hr : Rel h R w) (hg : ∀ id, h2.get id = h.get id) (hn : h2.n = h.n) : Rel h2 R w :=
  ⟨fun id o ho => by rw [hn]; exact hr.wf id o (by rw [← hg]; exact ho), fun id o ho => hr.obj id o (by rw [← hg]; exact ho),
   fun id id' o o' l l' a b => hr.inj id id' o o' l l' (by rw [← hg]; exact a) (by rw [← hg]; exact b)⟩
theorem Owned.congr {h h2 : H} {R : Ren} {b : Nat} (ho : Owned h2 R b) (hg : ∀ id, h2.get id = h.get id) : Owned h R b :=
  let ⟨id, o, l, a, c⟩ := ho
  ⟨id, o, l, by rw [← hg]; exact a, c⟩

/-- What a step does: from an abstract heap and its world to the next ones. -/
structure Step (h : H) (R : Ren) (w : World) (h' : H) (R' : Ren) (w' : World) : Prop where
  rel : Rel h' R' w'
  le : R.le R'
  fresh : ∀ id, R id = none → R' id ≠ none → h.n ≤ id ∧ id < h'.n
  n : h.n ≤ h'.n
  os : w'.os = w.os
  tape : w'.tape = w.tape
  output : w'.output = w.output
  size : w.heap.size ≤ w'.heap.size
  block : ∀ b, b < w.heap.size → ¬ Owned h R b → w'.heap[b]? = w.heap[b]?
  own : ∀ b, Owned h' R' b → Owned h R b ∨ w.heap.size ≤ b

theorem Step.congr {h h1 h2 : H} {R R' : Ren} {w w' : World} (s : Step h R w h1 R' w') (hg : ∀ id, h2.get id = h1.get id) (hn : h2.n = h1.n) : Step h R w h2 R' w' :=
  { s with
    rel := s.rel.congr hg hn
    fresh := fun id a b => by rw [hn]; exact s.fresh id a b
    n := by rw [hn]; exact s.n
    own := fun b ho => s.own b (ho.congr hg) }

theorem Step.refl {h : H} {R : Ren} {w : World} (hr : Rel h R w) : Step h R w h R w :=
  ⟨hr, R.le_refl, fun id a b => (b a).elim, Nat.le_refl _, rfl, rfl, rfl, Nat.le_refl _, fun _ _ _ => rfl, fun _ ho => .inl ho⟩

theorem Step.trans {h h1 h2 : H} {R R1 R2 : Ren} {w w1 w2 : World} (a : Step h R w h1 R1 w1) (b : Step h1 R1 w1 h2 R2 w2) : Step h R w h2 R2 w2 where
  rel := b.rel
  le := Ren.le_trans a.le b.le
  fresh := fun id h0 h2' => by
    cases h1' : R1 id with
    | none => have := b.fresh id h1' h2'; have := a.n; omega
    | some l => have := a.fresh id h0 (by rw [h1']; simp); have := b.n; omega
  n := Nat.le_trans a.n b.n
  os := b.os.trans a.os
  tape := b.tape.trans a.tape
  output := b.output.trans a.output
  size := Nat.le_trans a.size b.size
  block := fun k hk ho => by
    rw [b.block k (Nat.lt_of_lt_of_le hk a.size) (fun ho' => by rcases a.own k ho' with h' | h'; exact ho h'; omega), a.block k hk ho]
  own := fun k ho => by
    rcases b.own k ho with h' | h'
    · exact a.own k h'
    · exact .inr (Nat.le_trans a.size h')
end
end Go.Ab
