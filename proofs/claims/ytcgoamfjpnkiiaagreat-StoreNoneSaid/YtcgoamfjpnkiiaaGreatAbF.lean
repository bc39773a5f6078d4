/- New objects, append, copy, over an abstract heap. Conditions: none. -/
import Derived.Test.YtcgoamfjpnkiiaaGreatAbE
set_option linter.all false
namespace Go.Ab
noncomputable section
open Go.RowKit

theorem rep_length (z : List Value) : ∀ n, (rep z n).length = n * z.length
  | 0 => by simp [rep_zero]
  | n + 1 => by simp [rep_succ, rep_length z n, Nat.succ_mul, Nat.add_comm]

theorem rep_get (z : List Value) : ∀ (n j : Nat), j < n * z.length → (rep z n)[j]? = z[j % z.length]?
  | 0, j, h => by simp at h
  | n + 1, j, h => by
    simp only [rep_succ]
    by_cases hj : j < z.length
    · rw [List.getElem?_append_left hj, Nat.mod_eq_of_lt hj]
    · have h1 : z.length ≤ j := by omega
      rw [List.getElem?_append_right h1, rep_get z n (j - z.length) (by rw [Nat.succ_mul] at h; omega), Nat.mod_eq_sub_mod h1]

theorem rep_LR {R : Ren} {z : List Value} {u : Array Value} (hz : LR R z u.toList) (n m : Nat) (hm : m = n * u.size) (hu : 0 < u.size ∨ m = 0) :
    LR R (rep z n) ((Array.range m).map (u[· % u.size]!)).toList := by
  have hl : z.length = u.size := by have := hz.1; simpa using this
  refine ⟨by rw [rep_length]; simp [hl, hm], fun i x y hx hy => ?_⟩
  have hi : i < m := by
    rcases Nat.lt_or_ge i m with h | h
    · exact h
    · rw [List.getElem?_eq_none (by simpa using h)] at hy; cases hy
  have hpos : 0 < u.size := by omega
  rw [rep_get z n i (by rw [hl]; omega), hl] at hx
  have hmod : i % u.size < u.size := Nat.mod_lt _ hpos
  have hy' : y = u[i % u.size]! := by simpa [hi] using hy.symm
  refine hz.2 (i % u.size) x y hx ?_
  rw [hy', getElem!_pos u _ hmod]
  simp [hmod]

section
variable {P : Program} {Ty : Types} {h : H} {R : Ren} {w : World}

theorem Rel.drawn (hr : Rel h R w) {w' : World} (hh : w'.heap = w.heap) : Rel h R w' :=
  ⟨hr.wf, fun id o ho => (hr.obj id o ho).mono R.le_refl (fun _ _ => by rw [hh]), hr.inj⟩

/-- A new row of cells, of which the first ones are known. -/
theorem newRow_step' (hr : Rel h R w) (hn : R h.n = none) (elem tag : TypeId) {vs : List Value} {us : Array Value} (hl : vs.length ≤ us.size)
    (hv : ∀ (i : Nat) v, vs[i]? = some v → ∃ v', us[i]? = some v' ∧ VR R v v') :
    ∃ R', (newRow elem us).run P w = .ok ⟨w.heap.size, 0, none⟩ { w with heap := w.heap.push (.cells us elem) } ∧
      Step h R w (h.new (.cells vs tag false)) R' { w with heap := w.heap.push (.cells us elem) } ∧ R' h.n = some ⟨w.heap.size, 0, us.size⟩ ∧ Q h (h.new (.cells vs tag false)) := by
  have hu : (R.upd h.n ⟨w.heap.size, 0, us.size⟩) h.n = some ⟨w.heap.size, 0, us.size⟩ := by simp [Ren.upd]
  refine ⟨R.upd h.n ⟨w.heap.size, 0, us.size⟩, by simp [newRow], ?_, hu, Q.new⟩
  refine step_new hr hn _ _ _ ⟨⟨w.heap.size, 0, us.size⟩, us, elem, (0, 0), hu, by simp, rfl, by simpa using hl, ?_, fun _ => ⟨rfl, .inl rfl⟩⟩
  intro i v hi
  obtain ⟨v', a, b⟩ := hv i v hi
  exact ⟨v', by simpa using a, b.le (Ren.le_upd hn)⟩

/-- An object that takes another one's place. -/
theorem step_move (hr : Rel h R w) (hn : R h.n = none) {id : Nat} {o o' : AObj} {l l2 : Loc} {w' : World} (hid : h.get id = some o) (hro : o.ro = false) (hl : R id = some l) (hl2 : l2.blk = l.blk)
    (hs : w'.heap.size = w.heap.size) (hos : w'.os = w.os) (ht : w'.tape = w.tape) (hu : w'.output = w.output) (hb : ∀ b, b ≠ l.blk → w'.heap[b]? = w.heap[b]?) (hro' : o'.ro = false) (ho : OR (R.upd h.n l2) w' h.n o') :
    Step h R w ((h.del id).new o') (R.upd h.n l2) w' where
  rel := by
    have hne : ∀ k o, h.get k = some o → k ≠ h.n := by
      intro k o ho e
      subst e
      obtain ⟨l, _, h1, _⟩ := (hr.obj _ o ho).loc
      rw [hn] at h1; cases h1
    refine ⟨fun k o2 hk => ?_, fun k o2 hk => ?_, fun k k' o1 o2 x x' h1 h2 hkk hr1 hx hx' => ?_⟩
    · rw [H.get_new, H.n_del] at hk
      rw [H.n_new, H.n_del]
      by_cases e : k = h.n
      · omega
      · rw [if_neg e, H.get_del] at hk
        by_cases e2 : k = id
        · rw [if_pos e2] at hk; cases hk
        · rw [if_neg e2] at hk; have := hr.wf k o2 hk; omega
    · rw [H.get_new, H.n_del] at hk
      by_cases e : k = h.n
      · subst e; rw [if_pos rfl] at hk; cases hk; exact ho
      · rw [if_neg e, H.get_del] at hk
        by_cases e2 : k = id
        · rw [if_pos e2] at hk; cases hk
        · rw [if_neg e2] at hk
          exact (hr.obj k o2 hk).mono (Ren.le_upd hn) (fun x hx => hb _ (fun e' => hr.inj id k o o2 l x hid hk (fun e3 => e2 e3.symm) hro hl hx e'.symm))
    · rw [H.get_new, H.n_del] at h1 h2
      unfold Ren.upd at hx hx'
      by_cases e : k = h.n
      · rw [if_pos e] at hx
        cases hx
        have e' : k' ≠ h.n := fun e' => hkk (e.trans e'.symm)
        rw [if_neg e', H.get_del] at h2
        rw [if_neg e'] at hx'
        by_cases e2 : k' = id
        · rw [if_pos e2] at h2; cases h2
        · rw [if_neg e2] at h2
          rw [hl2]
          exact hr.inj id k' o o2 l x' hid h2 (fun e3 => e2 e3.symm) hro hl hx'
      · rw [if_neg e, H.get_del] at h1
        rw [if_neg e] at hx
        by_cases e2 : k = id
        · rw [if_pos e2] at h1; cases h1
        · rw [if_neg e2] at h1
          by_cases e' : k' = h.n
          · rw [if_pos e'] at hx'
            cases hx'
            rw [hl2]
            exact hr.inj k id o1 o x l h1 hid e2 hr1 hx hl
          · rw [if_neg e', H.get_del] at h2
            rw [if_neg e'] at hx'
            by_cases e3 : k' = id
            · rw [if_pos e3] at h2; cases h2
            · rw [if_neg e3] at h2
              exact hr.inj k k' o1 o2 x x' h1 h2 hkk hr1 hx hx'
  le := Ren.le_upd hn
  fresh := fun k h0 h1 => by
    unfold Ren.upd at h1
    split at h1
    · rename_i e; subst e; simp
    · exact (h1 h0).elim
  n := by simp
  os := hos
  tape := ht
  output := hu
  size := by omega
  block := fun b hb' hno => hb b (fun e => hno ⟨id, o, l, hid, hro, hl, e.symm⟩)
  own := fun b hb' => by
    obtain ⟨k, o2, x, h1, h2, h3, rfl⟩ := hb'
    rw [H.get_new, H.n_del] at h1
    unfold Ren.upd at h3
    by_cases e : k = h.n
    · rw [if_pos e] at h3; cases h3; exact .inl ⟨id, o, l, hid, hro, hl, hl2.symm⟩
    · rw [if_neg e, H.get_del] at h1
      rw [if_neg e] at h3
      by_cases e2 : k = id
      · rw [if_pos e2] at h1; cases h1
      · rw [if_neg e2] at h1; exact .inl ⟨k, o2, x, h1, h2, h3, rfl⟩

/-- An object is forgotten. -/
theorem step_del (hr : Rel h R w) (id : Nat) : Step h R w (h.del id) R w where
  rel := by
    have g : ∀ k o, (h.del id).get k = some o → h.get k = some o := by
      intro k o hk
      rw [H.get_del] at hk
      by_cases e : k = id
      · rw [if_pos e] at hk; cases hk
      · rw [if_neg e] at hk; exact hk
    exact ⟨fun k o hk => by rw [H.n_del]; exact hr.wf k o (g k o hk), fun k o hk => hr.obj k o (g k o hk), fun k k' o o' l l' a b c d e f => hr.inj k k' o o' l l' (g k o a) (g k' o' b) c d e f⟩
  le := R.le_refl
  fresh := fun _ a b => (b a).elim
  n := by simp
  os := rfl
  tape := rfl
  output := rfl
  size := Nat.le_refl _
  block := fun _ _ _ => rfl
  own := fun b hb => by
    obtain ⟨k, o, l, h1, h2, h3, rfl⟩ := hb
    rw [H.get_del] at h1
    by_cases e : k = id
    · rw [if_pos e] at h1; cases h1
    · rw [if_neg e] at h1; exact .inl ⟨k, o, l, h1, h2, h3, rfl⟩

theorem aBox_sound (hr : Rel h R w) (hn : R h.n = none) {elem : TypeId} {v v' : Value} (hv : VR R v v') :
    ∃ x w' R', (Instr.box elem v').run P w = .ok x w' ∧ Step h R w (aBox h elem v).2 R' w' ∧ VR R' (aBox h elem v).1 x ∧ Q h (aBox h elem v).2 := by
  obtain ⟨R', h1, h2, h3, h4⟩ := newRow_step (P := P) hr hn elem elem hv.cells
  refine ⟨.pointer (some ⟨w.heap.size, 0, none⟩), _, R', by simp [Instr.box, newVar, h1], h2, ?_, h4⟩
  have := VR.ptr (R := R') h.n 0 _ h3
  simpa [aBox] using this

theorem aAlloc_sound (hT : TyOk P Ty) (hr : Rel h R w) (hn : R h.n = none) {elem : TypeId} {v : Value} {h' : H} (he : aAlloc Ty h elem = some (v, h')) :
    ∃ x w' R', (Instr.alloc elem true (.tuple #[])).run P w = .ok x w' ∧ Step h R w h' R' w' ∧ VR R' v x ∧ Q h h' := by
  unfold aAlloc at he
  cases ht : Ty elem with
  | none => rw [ht] at he; cases he
  | some i =>
    rw [ht] at he
    cases he
    obtain ⟨z, hz, hz1, _⟩ := hT.zero (w := w) ht
    obtain ⟨R', h1, h2, h3, h4⟩ := newRow_step (P := P) hr hn elem elem (closedZero (R := R) (hT elem i ht).zc hz1)
    refine ⟨.pointer (some ⟨w.heap.size, 0, none⟩), _, R', by simp [Instr.alloc, hz, newVar, h1], h2, ?_, h4⟩
    have := VR.ptr (R := R') h.n 0 _ h3
    simpa using this

theorem PR.of {ps qs : List (Nat × Value)} (h : PR R ps qs) : PR R ps qs := h

theorem zeroArr (hT : TyOk P Ty) {e : TypeId} {ie : TI} (hie : Ty e = some ie) : ∃ z, (zeroValue e).run P w = .ok z w ∧ LR R ie.zero z.cells.toList ∧ z.cells.size = ie.size := by
  obtain ⟨z, hz, hz1, _⟩ := hT.zero (w := w) hie
  refine ⟨z, hz, closedZero (hT e ie hie).zc hz1, ?_⟩
  rw [← Array.length_toList, hz1, (hT e ie hie).zl]

theorem aBuildSlice_sound (hT : TyOk P Ty) (hr : Rel h R w) (hn : R h.n = none) {t : TypeId} {len : Nat} {ps : List (Nat × Value)} {qs : Array (Nat × Value)} {v : Value} {h' : H}
    (he : aBuildSlice Ty h t len ps = some (v, h')) (hp : PR R ps qs.toList) :
    ∃ x w' R', (Instr.buildSlice t len qs).run P w = .ok x w' ∧ Step h R w h' R' w' ∧ VR R' v x ∧ Q h h' := by
  unfold aBuildSlice at he
  split at he
  · rename_i e sz bt z0 fl ht
    obtain ⟨D, hD, hok⟩ := (hT t _ ht).und
    cases D <;> simp only [TD.ok] at hok
    subst hok
    split at he
    · rename_i ie hie
      split at he
      · rename_i hb
        split at he
        · rename_i cs hc
          cases he
          obtain ⟨z, hz, hlz, hzs⟩ := zeroArr (w := w) (R := R) hT hie
          have hzpos : 0 < z.cells.size := by omega
          by_cases h0 : len = 0
          · subst h0
            have hf : LR R ([] : List Value) (#[] : Array Value).toList := ⟨rfl, fun i x y a b => by simp at a⟩
            obtain ⟨us, hu, hlu⟩ := aFill_sound (place := fun j => some (j * ie.size, ie.size)) (place' := fun j => some (j * ie.size, ie.size)) (fun _ _ a => a) ps qs.toList _ _ _ hp hf (by simpa [rep_zero] using hc)
            obtain ⟨R', h1, h2, h3, h4⟩ := newRow_step (P := P) hr hn e e hlu
            refine ⟨.slice (some ⟨w.heap.size, 0, none⟩) 0 0, _, R', ?_, h2, ?_, h4⟩
            · simp only [Instr.buildSlice, Sem.run_bind, run_underlying hD, Result.andThen_ok, hT.sizeOf hie]
              simp [show Array.range 0 = #[] from rfl, hu, h1]
            · have := VR.slice (R := R') h.n 0 0 0 _ h3 (by unfold UNK; omega)
              simpa using this
          · have hne : ¬ len * ie.size = 0 := by
              intro e; rcases Nat.mul_eq_zero.1 e with e | e <;> omega
            obtain ⟨us, hu, hlu⟩ := aFill_sound (place := fun j => some (j * ie.size, ie.size)) (place' := fun j => some (j * ie.size, ie.size)) (fun _ _ a => a) ps qs.toList _ _ _ hp (rep_LR hlz len (len * ie.size) (by rw [hzs]) (.inl hzpos)) hc
            obtain ⟨R', h1, h2, h3, h4⟩ := newRow_step (P := P) hr hn e e hlu
            refine ⟨.slice (some ⟨w.heap.size, 0, none⟩) len len, _, R', ?_, h2, ?_, h4⟩
            · have hb1 : ¬ len * ie.size > 2 ^ 24 := by omega
              simp only [Instr.buildSlice, Sem.run_bind, run_underlying hD, Result.andThen_ok, hT.sizeOf hie, hb1, if_false, hne, hz, Sem.run_pure, hu, h1]
            · have := VR.slice (R := R') h.n 0 len len _ h3 hb.2.2
              simpa using this
        · cases he
      · cases he
    · cases he
  · cases he

theorem wrap_i64 {n : Int} (h0 : -(2 ^ 63) ≤ n) (h1 : n < 2 ^ 63) : IntKind.i64.wrap n = n := by
  show (if (true && decide (n % (2 ^ 64 : Int) ≥ (2 ^ 63 : Int))) = true then n % (2 ^ 64 : Int) - (2 ^ 64 : Int) else n % (2 ^ 64 : Int)) = n
  by_cases hn : n % (2 ^ 64 : Int) ≥ (2 ^ 63 : Int)
  · rw [if_pos (by simpa using hn)]; omega
  · rw [if_neg (by simpa using hn)]; omega

theorem aMakeSlice_sound (hT : TyOk P Ty) (hr : Rel h R w) (hn : R h.n = none) {t : TypeId} {len cap len' cap' : Value} {v : Value} {h' : H}
    (he : aMakeSlice Ty h t len cap = some (v, h')) (hl : VR R len len') (hc : VR R cap cap') :
    ∃ x w' R', (Instr.makeSlice t len' cap').run P w = .ok x w' ∧ Step h R w h' R' w' ∧ VR R' v x ∧ Q h h' := by
  unfold aMakeSlice at he
  split at he
  · rename_i e sz bt z0 fl k1 l k2 c ht
    cases hl; cases hc
    obtain ⟨D, hD, hok⟩ := (hT t _ ht).und
    cases D <;> simp only [TD.ok] at hok
    subst hok
    split at he
    · rename_i ie hie
      split at he
      · rename_i hb
        obtain ⟨b1, b2, b3, b4, b5⟩ := hb
        cases he
        obtain ⟨z, hz, hlz, hzs⟩ := zeroArr (w := w) (R := R) hT hie
        obtain ⟨f, hf, hfs, hfb⟩ := hT.typeInfo (w := w) hie
        have hzpos : 0 < z.cells.size := by omega
        have wl : IntKind.i64.wrap l = l := wrap_i64 (by omega) (by omega)
        have wc : IntKind.i64.wrap c = c := wrap_i64 (by omega) (by omega)
        have t1 : ¬ ((c < 0 ∨ (f.bytes : Int) * c > 2 ^ 48) ∨ l < 0) ∧ ¬ l > c := by rw [hfb]; omega
        by_cases h0 : c.toNat = 0
        · have hrep : rep ie.zero c.toNat = [] := by rw [h0]; rfl
          have hf0 : LR R (rep ie.zero c.toNat) (#[] : Array Value).toList := by
            rw [hrep]; exact ⟨rfl, fun i x y a b => by simp at a⟩
          obtain ⟨R', h1, h2, h3, h4⟩ := newRow_step (P := P) hr hn e e hf0
          refine ⟨.slice (some ⟨w.heap.size, 0, none⟩) l.toNat c.toNat, _, R', ?_, h2, ?_, h4⟩
          · simp only [Instr.makeSlice, Sem.run_bind, run_underlying hD, Result.andThen_ok, asInt, asIntOf, Sem.run_pure, hf, wl, wc]
            simp only [decide_eq_true_eq, Bool.or_eq_true]
            rw [if_neg (by rw [hfb]; omega)]
            have hs0 : c.toNat * ie.size = 0 := by rw [h0]; simp
            simp [hT.sizeOf hie, hs0, show Array.range 0 = #[] from rfl, h1]
          · have := VR.slice (R := R') h.n 0 l.toNat c.toNat _ h3 (by unfold UNK; omega)
            simpa using this
        · have hne : ¬ c.toNat * ie.size = 0 := by
            intro e; rcases Nat.mul_eq_zero.1 e with e | e <;> omega
          obtain ⟨R', h1, h2, h3, h4⟩ := newRow_step (P := P) hr hn e e (rep_LR hlz c.toNat (c.toNat * ie.size) (by rw [hzs]) (.inl hzpos))
          refine ⟨.slice (some ⟨w.heap.size, 0, none⟩) l.toNat c.toNat, _, R', ?_, h2, ?_, h4⟩
          · simp only [Instr.makeSlice, Sem.run_bind, run_underlying hD, Result.andThen_ok, asInt, asIntOf, Sem.run_pure, hf, wl, wc]
            simp only [decide_eq_true_eq, Bool.or_eq_true]
            rw [if_neg (by rw [hfb]; omega)]
            simp only [run_askRoom, Result.andThen_ok, hT.sizeOf hie, hne, if_false, Sem.run_bind, hz, Sem.run_pure, h1]
          · have := VR.slice (R := R') h.n 0 l.toNat c.toNat _ h3 (by unfold UNK; omega)
            simpa using this
      · cases he
    · cases he
  · cases he
end
end
end Go.Ab
