/- A world below which nothing has turned bears what it bore; a new object found there. Conditions: none. -/
import Derived.Test.YtcgoamfjpnkiiaaGreatAbV
set_option linter.all false
namespace Go.Ab
noncomputable section
open Go.RowKit

theorem Rel.ltBlk {h : H} {R : Ren} {w : World} (hr : Rel h R w) {id : Nat} {o : AObj} {l : Loc} (ho : h.get id = some o) (hl : R id = some l) : l.blk < w.heap.size := by
  obtain ⟨l', ob, h1, h2⟩ := (hr.obj id o ho).loc
  rw [hl] at h1; cases h1
  exact (Array.getElem?_eq_some_iff.1 h2).1

theorem step_below {h : H} {R : Ren} {w w' : World} (hr : Rel h R w) (hb : Below w.heap.size w w') : Step h R w h R w' where
  rel := ⟨hr.wf, fun id o ho => (hr.obj id o ho).mono R.le_refl fun l hl => hb.block _ (hr.ltBlk ho hl), hr.inj⟩
  le := R.le_refl
  fresh := fun id a b => (b a).elim
  n := Nat.le_refl _
  os := hb.os
  tape := hb.tape
  output := hb.output
  size := hb.size
  block := fun b hlt _ => hb.block b hlt
  own := fun b ho => .inl ho

theorem step_adopt {h : H} {R : Ren} {w w' : World} (hr : Rel h R w) (hb : Below w.heap.size w w') (hn : R h.n = none) {l : Loc} (hl : w.heap.size ≤ l.blk) {o : AObj} (hor : OR (R.upd h.n l) w' h.n o) : Step h R w (h.new o) (R.upd h.n l) w' where
  rel := by
    have hne : ∀ id o, h.get id = some o → id ≠ h.n := fun id o ho e => by have := hr.wf id o ho; omega
    refine ⟨fun id o' hid => ?_, fun id o' hid => ?_, fun id id' o1 o2 x x' h1 h2 hid hro hx hx' => ?_⟩
    · rw [H.get_new] at hid
      rw [H.n_new]
      by_cases e : id = h.n
      · omega
      · rw [if_neg e] at hid; have := hr.wf id o' hid; omega
    · rw [H.get_new] at hid
      by_cases e : id = h.n
      · subst e; rw [if_pos rfl] at hid; cases hid; exact hor
      · rw [if_neg e] at hid
        exact (hr.obj id o' hid).mono (Ren.le_upd hn) fun l hl => hb.block _ (hr.ltBlk hid hl)
    · rw [H.get_new] at h1 h2
      by_cases e : id = h.n
      · have e' : id' ≠ h.n := fun e2 => hid (e.trans e2.symm)
        rw [if_neg e'] at h2
        have h3 : R.upd h.n l id = some l := by simp [Ren.upd, e]
        rw [h3] at hx; cases hx
        have h4 : R.upd h.n l id' = R id' := by simp [Ren.upd, e']
        rw [h4] at hx'
        have := hr.ltBlk h2 hx'
        omega
      · rw [if_neg e] at h1
        have h3 : R.upd h.n l id = R id := by simp [Ren.upd, e]
        rw [h3] at hx
        have hlt := hr.ltBlk h1 hx
        by_cases e' : id' = h.n
        · have h4 : R.upd h.n l id' = some l := by simp [Ren.upd, e']
          rw [h4] at hx'; cases hx'
          omega
        · rw [if_neg e'] at h2
          have h4 : R.upd h.n l id' = R id' := by simp [Ren.upd, e']
          rw [h4] at hx'
          exact hr.inj id id' o1 o2 x x' h1 h2 hid hro hx hx'
  le := Ren.le_upd hn
  fresh := fun id a b => by
    by_cases e : id = h.n
    · subst e; exact ⟨Nat.le_refl _, by simp⟩
    · simp [Ren.upd, e, a] at b
  n := by simp
  os := hb.os
  tape := hb.tape
  output := hb.output
  size := hb.size
  block := fun b hlt _ => hb.block b hlt
  own := fun b ⟨id, o', l', h1, h2, h3, h4⟩ => by
    rw [H.get_new] at h1
    by_cases e : id = h.n
    · have h5 : R.upd h.n l id = some l := by simp [Ren.upd, e]
      rw [h5] at h3; cases h3
      exact .inr (by omega)
    · rw [if_neg e] at h1
      have h5 : R.upd h.n l id = R id := by simp [Ren.upd, e]
      rw [h5] at h3
      exact .inl ⟨id, o', l', h1, h2, h3, h4⟩

/-! Insertion sort is the sort -/
theorem insZ_perm (x : Int) : ∀ l, (insZ x l).Perm (x :: l)
  | [] => .refl _
  | y :: ys => by
    simp only [insZ]
    cases decide (x ≤ y) with
    | true => exact .refl _
    | false => exact ((insZ_perm x ys).cons y).trans (.swap x y ys)
theorem isort_perm : ∀ l, (isort l).Perm l
  | [] => .refl _
  | x :: xs => (insZ_perm x _).trans ((isort_perm xs).cons x)
theorem insZ_mem {x a : Int} {l : List Int} (h : a ∈ insZ x l) : a = x ∨ a ∈ l := by
  have := (insZ_perm x l).mem_iff.1 h
  simpa using this
theorem insZ_pw (x : Int) : ∀ l : List Int, l.Pairwise (· ≤ ·) → (insZ x l).Pairwise (· ≤ ·)
  | [], _ => by simp [insZ]
  | y :: ys, h => by
    simp only [insZ]
    have hy := List.pairwise_cons.1 h
    cases hd : decide (x ≤ y) with
    | true =>
      have hxy : x ≤ y := by simpa using hd
      refine List.pairwise_cons.2 ⟨fun a ha => ?_, h⟩
      rcases List.mem_cons.1 ha with rfl | ha
      · exact hxy
      · exact Int.le_trans hxy (hy.1 a ha)
    | false =>
      have hxy : ¬ x ≤ y := by simpa using hd
      refine List.pairwise_cons.2 ⟨fun a ha => ?_, insZ_pw x ys hy.2⟩
      rcases insZ_mem ha with rfl | ha
      · omega
      · exact hy.1 a ha
theorem isort_pw : ∀ l : List Int, (isort l).Pairwise (· ≤ ·)
  | [] => .nil
  | x :: xs => insZ_pw x _ (isort_pw xs)
theorem mergeSort_isort {ss ks : List Int} (h : ss.Perm ks) : ss.mergeSort (fun x y => decide (x ≤ y)) = isort ks := by
  refine List.Perm.eq_of_pairwise (le := (· ≤ ·)) (fun a b _ _ h1 h2 => Int.le_antisymm h1 h2) ?_ (isort_pw ks) ?_
  · have := List.pairwise_mergeSort (le := fun (x y : Int) => decide (x ≤ y)) (fun a b c h1 h2 => by simp at *; omega) (fun a b => by simp; omega) ss
    exact this.imp fun h => by simpa using h
  · exact (List.mergeSort_perm ss _).trans (h.trans (isort_perm ks).symm)

theorem keysZ_get : ∀ {es : List MapEntry} {ks : List Int}, keysZ es = some ks → es.map (·.key) = ks.map (fun x => .int .i64 x) ∧ ∀ k ∈ ks, -9223372036854775808 ≤ k ∧ k ≤ 9223372036854775807
  | [], ks, h => by simp only [keysZ, Option.some.injEq] at h; subst h; exact ⟨rfl, fun _ hk => by cases hk⟩
  | e :: es, ks, h => by
    simp only [keysZ] at h
    split at h
    · rename_i x l hk hl
      rcases condQ h with ⟨hb, h2⟩ | ⟨_, h2⟩
      · cases h2
        obtain ⟨a, b⟩ := keysZ_get hl
        simp only [Bool.and_eq_true, decide_eq_true_eq] at hb
        refine ⟨by simp only [List.map_cons, hk, a], fun k hkm => ?_⟩
        rcases List.mem_cons.1 hkm with rfl | hkm
        · exact hb
        · exact b k hkm
      · cases h2
    · cases h

theorem apartN_nodup : ∀ {l : List Nat}, apartN l = true → l.Nodup
  | [], _ => .nil
  | x :: xs, h => by
    simp only [apartN, Bool.and_eq_true] at h
    refine List.nodup_cons.2 ⟨fun hm => ?_, apartN_nodup h.2⟩
    have := List.all_eq_true.1 h.1 x hm
    rw [Nat.beq_refl] at this; cases this
theorem apartZ_nodup : ∀ {l : List Int}, apartZ l = true → l.Nodup
  | [], _ => .nil
  | x :: xs, h => by
    simp only [apartZ, Bool.and_eq_true] at h
    refine List.nodup_cons.2 ⟨fun hm => ?_, apartZ_nodup h.2⟩
    have := List.all_eq_true.1 h.1 x hm
    simp at this
end
end Go.Ab
