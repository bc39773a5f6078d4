/- append over an abstract heap, whole. Conditions: none. -/
import Derived.Test.YtcgoamfjpnkiiaaGreatAbG
set_option linter.all false
namespace Go.Ab
noncomputable section
open Go.RowKit

section
variable {P : Program} {Ty : Types} {h : H} {R : Ren} {w : World}

theorem aGrow_n {h h' : H} {e : TypeId} {ie : TI} {need : Nat} {cs : List Value} {v : Value} (hg : aGrow h e ie need cs = some (v, h')) : h'.n = h.n + 1 ∧ (2 * need + 192) * ie.bytes ≤ 2 ^ 48 ∧ need < 2 ^ 62 := by
  unfold aGrow at hg
  split at hg
  · rename_i hb; cases hg; exact ⟨by simp, hb.1, hb.2⟩
  · cases hg

/-- The cells that a slice has, read in a world that was drawn from. -/
theorem first_seg (hr : Rel h R w) {id off len size : Nat} {old : List Value} {l : Loc} {cap : Nat} (hs : h.seg id off (len * size) = some old) (hl : R id = some l) :
    ∃ us : Array Value, LR R old us.toList ∧ us.size = len * size ∧ (Builtin.firstCells size len (.slice (some ⟨l.blk, l.off + off, none⟩) len cap)).run P w = .ok us w := by
  obtain ⟨us, h1, h2, h3⟩ := seg_cells hr hs hl
  have := run_loadCells_list (P := P) w ⟨l.blk, l.off + off, none⟩ us h3
  rw [h2] at this
  exact ⟨us.toArray, by simpa using h1, by simpa using h2, by simp [Builtin.firstCells, this]⟩

theorem LR.append {a b : List Value} {c d : List Value} (h1 : LR R a c) (h2 : LR R b d) : LR R (a ++ b) (c ++ d) := by
  refine ⟨by simp [h1.1, h2.1], fun i x y hx hy => ?_⟩
  by_cases hi : i < a.length
  · rw [List.getElem?_append_left hi] at hx
    rw [List.getElem?_append_left (by rw [← h1.1]; exact hi)] at hy
    exact h1.2 i x y hx hy
  · rw [List.getElem?_append_right (by omega)] at hx
    rw [List.getElem?_append_right (by rw [← h1.1]; omega), ← h1.1] at hy
    exact h2.2 _ x y hx hy

theorem LR.nil : LR R [] [] := ⟨rfl, fun i x y a b => by simp at a⟩

theorem aAppend_sound (hT : TyOk P Ty) (hr : Rel h R w) {t0 t1 ty : TypeId} {s s' x x' v : Value} {h' : H} (hfr : ∀ id, h.n ≤ id → id < h'.n → R id = none)
    (he : aAppend Ty h t0 t1 s x = some (v, h')) (hs : VR R s s') (hx : VR R x x') :
    ∃ v' w' R', (Builtin.append_ #[t0, t1] ty #[s', x']).run P w = .ok v' w' ∧ Step h R w h' R' w' ∧ VR R' v v' ∧ Q h h' := by
  unfold aAppend at he
  simp only [Fast.app_eq, Fast.len_eq, Fast.all_eq, Fast.take_eq, Fast.drop_eq] at he
  split at he
  · rename_i e sz bt z0 fl i1 ht0 ht1
    split at he
    · cases he
    · rename_i ie hie
      cases hz0 : Nat.beq ie.size 0 with
      | true => rw [hz0] at he; cases he
      | false =>
        rw [hz0] at he
        simp only [cond_false] at he
        have hpos : 0 < ie.size := by
          rcases Nat.eq_zero_or_pos ie.size with h0 | h0
          · rw [h0] at hz0; simp at hz0
          · exact h0
        split at he
        · cases he
        · rename_i n vs hsrc
          obtain ⟨us, hlu, hus, hform, hfc, hzc⟩ := srcOf_sound (w := w) hT hr hie hpos hsrc hx
          have hd1 : Rel h R { w with drawn := w.drawn + 1 } := hr.drawn rfl
          obtain ⟨us2, hlu2, hus2, _, hfc2, hzc2⟩ := srcOf_sound (w := { w with drawn := w.drawn + 1 }) hT hd1 hie hpos hsrc hx
          have front : ∀ base sLen sCap, (Builtin.append_ #[t0, t1] ty #[.slice base sLen sCap, x']).run P w = (appTail e base sLen sCap ie.size (isIntD i1.d) x' n).run P w :=
            fun base sLen sCap => append_front hT ht0 rfl ht1 hie base sLen sCap n x' ty hform
          -- nothing is appended
          have same : n = 0 → ∀ base sLen sCap, sLen ≤ sCap → (appTail e base sLen sCap ie.size (isIntD i1.d) x' n).run P w = .ok (.slice base sLen sCap) w := by
            intro h0 base sLen sCap hle
            subst h0
            have hus0 : us = #[] := Array.eq_empty_of_size_eq_zero (by rw [hus]; simp)
            have := appTail_in (P := P) (w := w) (e := e) (base := base) (sLen := sLen) (sCap := sCap) (x := x') (by omega) hfc hzc hus (w' := w) (by cases base <;> simp [hus0, storeCells])
            simpa using this
          -- into a new row, of what is known
          have fresh : ∀ (h1 : H) (tag : TypeId) (base : Option Addr) (sLen sCap : Nat) (oldv : List Value) (old : Array Value), Rel h1 R w → h1.n = h.n → h'.n = h.n + 1 → sCap < sLen + n → aGrow h1 tag ie (sLen + n) (oldv ++ vs) = some (v, h') → LR R oldv old.toList → old.size = sLen * ie.size →
              (Builtin.firstCells ie.size sLen (.slice base sLen sCap)).run P { w with drawn := w.drawn + 1 } = .ok old { w with drawn := w.drawn + 1 } →
              ∃ v' w' R', (appTail e base sLen sCap ie.size (isIntD i1.d) x' n).run P w = .ok v' w' ∧ Step h1 R w h' R' w' ∧ VR R' v v' ∧ Q h1 h' := by
            intro h1 tag base sLen sCap oldv old hr1 hn1 hn' hc hg hlo hos ho
            obtain ⟨_, b1, b2⟩ := aGrow_n hg
            obtain ⟨cap, rest, g1, g2, g3⟩ := appTail_grow (P := P) (w := w) hT hie hc b1 b2 hfc2 hzc2 hus2 ho hos
            obtain ⟨R', k1, k2, k3⟩ := aGrow_sound hT hr1 (by rw [hn1]; exact hfr _ (Nat.le_refl _) (by omega)) hie hg (old := old) (new := us2) (rest := rest) (by rw [Array.toList_append]; exact hlo.append hlu2) g1 g2
            exact ⟨_, _, R', g3, k1, k2, k3⟩
          split at he
          · -- a nil slice
            rename_i l c
            cases hs
            split at he
            · rename_i hb
              obtain ⟨rfl, rfl⟩ := hb
              cases hn0 : Nat.beq n 0 with
              | true =>
                rw [hn0] at he
                cases he
                exact ⟨_, w, R, by rw [front, same (Nat.eq_of_beq_eq_true hn0) _ _ _ (Nat.le_refl _)], Step.refl hr, .snil _ _, Q.refl _⟩
              | false =>
                rw [hn0] at he
                simp only [cond_false] at he
                have hne : n ≠ 0 := by intro e; subst e; simp at hn0
                obtain ⟨v', w', R', f1, f2, f3, f4⟩ := fresh h e none 0 0 [] #[] hr rfl (aGrow_n he).1 (by omega) (by simpa using he) LR.nil (by simp) (by simp [Builtin.firstCells])
                exact ⟨v', w', R', by rw [front]; exact f1, f2, f3, f4⟩
            · cases he
          · -- a slice
            rename_i id off len cap
            cases hs with
            | slice _ _ _ _ l hl hc =>
              have hb : Nat.blt cap UNK = true := Nat.ble_eq_true_of_le hc
              rw [hb] at he
              simp only [cond_true] at he
              cases hle : Nat.ble (len + n) cap with
              | true =>
                rw [hle] at he
                simp only [cond_true] at he
                have hle' := Nat.le_of_ble_eq_true hle
                cases hn0 : Nat.beq n 0 with
                | true =>
                  rw [hn0] at he
                  cases he
                  exact ⟨_, w, R, by rw [front, same (Nat.eq_of_beq_eq_true hn0) _ _ _ (by omega)], Step.refl hr, .slice _ _ _ _ l hl hc, Q.refl _⟩
                | false =>
                  rw [hn0] at he
                  simp only [cond_false] at he
                  cases hw : h.write id (off + len * ie.size) vs with
                  | none => rw [hw] at he; cases he
                  | some h2 =>
                    rw [hw] at he
                    cases he
                    obtain ⟨k1, k2, k3⟩ := write_step (P := P) hr hw hl hlu
                    refine ⟨_, _, R, ?_, k2, .slice _ _ _ _ l hl hc, k3⟩
                    rw [front, appTail_in hle' hfc hzc hus (w' := w.setCells l.blk (l.off + (off + len * ie.size)) us.toList) (by
                      show (storeCells (Addr.add ⟨l.blk, l.off + off, none⟩ (len * ie.size)) us.toList).run P w = _
                      rw [add_none, Nat.add_assoc]; exact k1)]
              | false =>
                rw [hle] at he
                simp only [cond_false] at he
                cases hl2 : Nat.ble len cap with
                | false => rw [hl2] at he; cases he
                | true =>
                  rw [hl2] at he
                  simp only [cond_true] at he
                  cases hsg : h.seg id off (len * ie.size) with
                  | none => rw [hsg] at he; cases he
                  | some old =>
                    rw [hsg] at he
                    have hlt : cap < len + n := by
                      rcases Nat.lt_or_ge cap (len + n) with h0 | h0
                      · exact h0
                      · rw [Nat.ble_eq_true_of_le h0] at hle; cases hle
                    obtain ⟨oa, o1, o2, o3⟩ := first_seg (P := P) (cap := cap) hd1 hsg hl
                    obtain ⟨v', w', R', f1, f2, f3, f4⟩ := fresh h e (some ⟨l.blk, l.off + off, none⟩) len cap old oa hr rfl (aGrow_n he).1 hlt he o1 o2 o3
                    exact ⟨v', w', R', by rw [front]; exact f1, f2, f3, f4⟩
            | sliceU _ _ _ e0 cap' a l hl hlc ha =>
              have hb : Nat.blt (UNK + e0) UNK = false := by
                cases hb : Nat.blt (UNK + e0) UNK with
                | false => rfl
                | true => have := blt_true hb; omega
              rw [hb] at he
              simp only [cond_false] at he
              cases hq : Nat.beq (UNK + e0) (UNK + ie.size) with
              | false => rw [hq] at he; cases he
              | true =>
                rw [hq] at he
                have hes : e0 = ie.size := by have := Nat.eq_of_beq_eq_true hq; omega
                subst hes
                simp only [cond_true] at he
                cases hn0 : Nat.beq n 0 with
                | true =>
                  rw [hn0] at he
                  cases he
                  exact ⟨_, w, R, by rw [front, same (Nat.eq_of_beq_eq_true hn0) _ _ _ hlc], Step.refl hr, .sliceU _ _ _ _ _ _ l hl hlc ha, Q.refl _⟩
                | false =>
                  rw [hn0] at he
                  simp only [cond_false] at he
                  have hne : n ≠ 0 := by intro e; subst e; simp at hn0
                  cases hg : h.get id with
                  | none => rw [hg] at he; cases he
                  | some o =>
                    rw [hg] at he
                    cases o with
                    | map es cl t => simp at he
                    | iter s p => simp at he
                    | miter m s p t => simp at he
                    | cells cs tag ro =>
                      cases ro with
                      | true => simp at he
                      | false =>
                        simp only at he
                        obtain ⟨l', c, ee, fr, o1, o2, o3, o4, o5, o6⟩ := hr.obj id _ hg
                        rw [hl] at o1; cases o1
                        cases hin : (Nat.blt 0 len && Nat.ble (off + (len + n) * ie.size) cs.length) with
                        | true =>
                          rw [hin] at he
                          simp only [cond_true] at he
                          rw [Bool.and_eq_true] at hin
                          have h0 := blt_true hin.1
                          have h1 := Nat.le_of_ble_eq_true hin.2
                          rcases ha with ha | ⟨rfl, ha⟩
                          · omega
                          · have hle' : len + n ≤ cap' := by
                              rcases Nat.lt_or_ge cap' (len + n) with h2 | h2
                              · exfalso
                                have h3 : (cap' + 1) * ie.size ≤ (len + n) * ie.size := Nat.mul_le_mul_right _ h2
                                rw [Nat.add_mul] at h3
                                omega
                              · exact h2
                            cases hw : h.write id (off + len * ie.size) vs with
                            | none => rw [hw] at he; cases he
                            | some h2 =>
                              rw [hw] at he
                              cases he
                              obtain ⟨k1, k2, k3⟩ := write_step (P := P) hr hw hl hlu
                              refine ⟨_, _, R, ?_, k2, .sliceU _ _ _ _ _ _ l hl hle' (.inr ⟨rfl, ha⟩), k3⟩
                              rw [front, appTail_in hle' hfc hzc hus (w' := w.setCells l.blk (l.off + (off + len * ie.size)) us.toList) (by
                                show (storeCells (Addr.add ⟨l.blk, l.off + off, none⟩ (len * ie.size)) us.toList).run P w = _
                                rw [add_none, Nat.add_assoc]; exact k1)]
                        | false =>
                          rw [hin] at he
                          simp only [cond_false] at he
                          cases hcs : (Nat.beq off 0 && (Nat.ble (off + len * ie.size) cs.length && vs.all oneCell)) with
                          | false => rw [hcs] at he; cases he
                          | true =>
                            rw [hcs] at he
                            simp only [cond_true] at he
                            rw [Bool.and_eq_true] at hcs
                            have hoff0 := Nat.eq_of_beq_eq_true hcs.1
                            replace hcs := hcs.2
                            rw [Bool.and_eq_true] at hcs
                            have hend := Nat.le_of_ble_eq_true hcs.1
                            have hsg : h.seg id off (len * ie.size) = some ((cs.drop off).take (len * ie.size)) := by
                              unfold H.seg
                              rw [hg]
                              simp only
                              rw [seg_def]
                              rw [Nat.ble_eq_true_of_le (by omega)]
                              simp only [cond_true]
                            have htk : ((cs.drop off).take (len * ie.size)).length = len * ie.size := by
                              rw [List.length_take, List.length_drop]; omega
                            by_cases hle' : len + n ≤ cap'
                            · -- in place: it takes the other one's place
                              rcases ha with ha | ⟨rfl, ha⟩
                              · omega
                              · have hnone := hfr h.n (Nat.le_refl _) (by rw [(aGrow_n he).1]; simp)
                                unfold aGrow at he
                                split at he
                                · cases he
                                  have hvl : vs.length = n * ie.size := by rw [hlu.1]; simpa using hus
                                  have hroom : l.off + off + (len + n) * ie.size ≤ c.size := by
                                    have := Nat.mul_le_mul_right ie.size hle'
                                    omega
                                  rw [Nat.add_mul] at hroom
                                  have hone : ∀ v ∈ us.toList, v.oneCell' = true := by
                                    intro v hm
                                    obtain ⟨i, hi⟩ := List.getElem?_of_mem hm
                                    have hi' : i < vs.length := by
                                      rw [hlu.1]
                                      rcases Nat.lt_or_ge i us.toList.length with h | h
                                      · exact h
                                      · rw [List.getElem?_eq_none h] at hi; cases hi
                                    rw [(hlu.2 i vs[i] v (List.getElem?_eq_getElem hi') hi).oneCell]
                                    exact List.all_eq_true.1 hcs.2 _ (List.getElem_mem hi')
                                  have hul : us.toList.length = n * ie.size := by simpa using hus
                                  have hst : (storeCells (Addr.add ⟨l.blk, l.off + off, none⟩ (len * ie.size)) us.toList).run P w = .ok () (w.setCells l.blk (l.off + off + len * ie.size) us.toList) := by
                                    rw [add_none]
                                    have := run_storeCells_cells (P := P) l.blk (l.off + off + len * ie.size) us.toList 0 w (fun j hj => by simp [World.cell?, o2]; omega)
                                      (fun j hj => by have := fr_ok (i := l.off + off + len * ie.size + 0 + j) (o6 rfl).2 (by omega); simp only [World.frozen?, o2]; simpa using this) hone
                                    simpa using this
                                  obtain ⟨c', q1, q2, q3⟩ := setCells_at l.blk ee fr us.toList (l.off + off + len * ie.size) w c o2
                                  obtain ⟨r1, r2, r3, r4, r5⟩ := setCells_rest l.blk us.toList (l.off + off + len * ie.size) w
                                  have hupd : (R.upd h.n ⟨l.blk, l.off + off, l.sz⟩) h.n = some ⟨l.blk, l.off + off, l.sz⟩ := by simp [Ren.upd]
                                  have hstep := step_move (w' := w.setCells l.blk (l.off + off + len * ie.size) us.toList) hr hnone (l2 := ⟨l.blk, l.off + off, l.sz⟩) (o' := .cells ((cs.drop off).take (len * ie.size) ++ vs) tag false) hg rfl hl rfl r1 r2 r3 r4 r5 rfl
                                    ⟨⟨l.blk, l.off + off, l.sz⟩, c', ee, fr, hupd, q1, by show l.sz = c'.size; rw [q2]; exact o3, by
                                      rw [q2, List.length_append, htk, hvl]; show l.off + off + _ ≤ _; omega, by
                                      intro i v hi
                                      show ∃ v', c'[l.off + off + i]? = some v' ∧ _
                                      rw [q3, hul]
                                      by_cases hi1 : i < ((cs.drop off).take (len * ie.size)).length
                                      · have hi2 : i < len * ie.size := by rw [htk] at hi1; exact hi1
                                        rw [List.getElem?_append_left hi1, List.getElem?_take, if_pos hi2, List.getElem?_drop] at hi
                                        rw [if_neg (by omega)]
                                        obtain ⟨v', a1, a2⟩ := o5 _ _ hi
                                        exact ⟨v', by rw [Nat.add_assoc]; exact a1, a2.le (Ren.le_upd hnone)⟩
                                      · rw [List.getElem?_append_right (by omega)] at hi
                                        rw [htk] at hi1 hi
                                        have hi2 : i - (len * ie.size) < us.toList.length := by
                                          rw [← hlu.1]
                                          rcases Nat.lt_or_ge (i - (len * ie.size)) vs.length with h | h
                                          · exact h
                                          · rw [List.getElem?_eq_none h] at hi; cases hi
                                        rw [if_pos (by omega)]
                                        refine ⟨us.toList[i - (len * ie.size)], ?_, (hlu.2 _ _ _ hi (List.getElem?_eq_getElem hi2)).le (Ren.le_upd hnone)⟩
                                        rw [← List.getElem?_eq_getElem hi2]
                                        congr 1; omega, fun _ => ⟨by show l.off + off = 0; rw [(o6 rfl).1, hoff0], by rw [q2]; exact (o6 rfl).2⟩⟩
                                  refine ⟨.slice (some ⟨l.blk, l.off + off, none⟩) (len + n) cap', _, _, ?_, hstep, ?_, Q.del.trans Q.new⟩
                                  · rw [front, appTail_in hle' hfc hzc hus hst]
                                  · have := VR.sliceU (R := R.upd h.n ⟨l.blk, l.off + off, l.sz⟩) h.n 0 (len + n) ie.size cap' ⟨l.blk, l.off + off, none⟩ _ hupd hle' (.inr ⟨rfl, by simpa using ha⟩)
                                    exact this
                                · cases he
                            · -- into a new row
                              have hcase : ∃ v' w' R', (appTail e (some a) len cap' ie.size (isIntD i1.d) x' n).run P w = .ok v' w' ∧ Step (h.del id) R w h' R' w' ∧ VR R' v v' ∧ Q (h.del id) h' := by
                                rcases ha with ha | ⟨rfl, ha⟩
                                · have hlen : len = 0 := by omega
                                  subst hlen
                                  have hdr : (cs.drop off).take (0 * ie.size) = [] := by simp
                                  rw [hdr] at he
                                  exact fresh (h.del id) tag (some a) 0 cap' [] #[] (step_del hr id).rel rfl (by rw [(aGrow_n he).1]; rfl) (by omega) he LR.nil (by simp) (by simp [Builtin.firstCells, loadCells, loadCellsFrom])
                                · obtain ⟨oa, p1, p2, p3⟩ := first_seg (P := P) (cap := cap') hd1 hsg hl
                                  exact fresh (h.del id) tag (some ⟨l.blk, l.off + off, none⟩) len cap' _ oa (step_del hr id).rel rfl (by rw [(aGrow_n he).1]; rfl) (by omega) he p1 p2 p3
                              obtain ⟨v', w', R', f1, f2, f3, f4⟩ := hcase
                              exact ⟨v', w', R', by rw [front]; exact f1, (step_del hr id).trans f2, f3, Q.del.trans f4⟩
          · cases he
  · cases he
end
end
end Go.Ab
