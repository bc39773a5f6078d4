/- The library's sorted keys of a map, at the seat: the given function is sound. Conditions: none. -/
import Derived.Test.YtcgoamfjpnkiiaaGreatAbVs
set_option linter.all false
namespace Go.Ab.Tryz
noncomputable section
open Go.RowKit Go.Proofs

theorem LR.one {R : Go.Ab.Ren} {v : Value} {l : List Value} (h : LR R [v] l) : ∃ u, l = [u] ∧ VR R v u := by
  match l, h with
  | [u], h => exact ⟨u, rfl, h.2 0 v u rfl rfl⟩
  | [], h => simp [LR] at h
  | _ :: _ :: _, h => simp [LR] at h

theorem cap_of {R : Go.Ab.Ren} {g : FuncId} {first caps : Array Value} {c : Nat} {u : Value} (hf : first.toList.isEmpty = true) (hc : caps.toList = [.pointer (some ⟨c, 0, none⟩)]) (h : VR R (.func (.func g) first caps) u) :
    ∃ l, R c = some l ∧ u = .func (.func g) #[] #[.pointer (some ⟨l.blk, l.off + 0, none⟩)] := by
  cases h with
  | func _ _ ys _ vs hs _ hs' h' =>
    have h1 : first = #[] := Array.toList_inj.1 (List.isEmpty_iff.1 hf)
    subst h1
    have h2 : ys = #[] := Array.eq_empty_of_size_eq_zero (by simpa using hs.symm)
    subst h2
    have h3 : caps = #[.pointer (some ⟨c, 0, none⟩)] := Array.toList_inj.1 hc
    subst h3
    have h4 : vs.size = 1 := by simpa using hs'.symm
    obtain ⟨x, hx⟩ : ∃ x, vs = #[x] := Array.size_eq_one_iff.1 h4
    subst hx
    have h5 := h' 0 _ x rfl rfl
    cases h5 with
    | ptr _ _ l hl => exact ⟨l, hl, rfl⟩

/-- The keys of a map of the world. -/
theorem own_of {R : Go.Ab.Ren} {w : World} {b : Nat} {es : List MapEntry} {es' : Array MapEntry} {clock : Nat} {ks : List Int} (hb : w.heap[b]? = some (.map es' clock)) (hl : es.length = es'.size)
    (hE : ∀ (i : Nat) (x y : MapEntry), es[i]? = some x → es'[i]? = some y → VR R x.key y.key ∧ VR R x.val y.val ∧ x.born = y.born) (hk : keysZ es = some ks) (ho : okMap es clock ks = true) :
    ∃ D0 : DataW Unit, w.ownsMap Tryz.prog 3 (fun _ => some (.lit (.bool true), [])) b es.length D0 ∧ (intKeys D0).Perm ks ∧ Maps.size D0 ≤ 1000000 := by
  simp only [okMap, Bool.and_eq_true] at ho
  obtain ⟨⟨⟨o1, o2⟩, o3⟩, o4⟩ := ho
  obtain ⟨k1, k2⟩ := keysZ_get hk
  have hu : Tryz.prog.underlying 3 = some (.int .i64) := by kernel_rfl
  -- the entries of the world have the same keys and stamps
  have hkey : es'.toList.map (·.key) = ks.map (fun x => Value.int .i64 x) := by
    rw [← k1]
    apply List.ext_getElem?
    intro i
    rw [List.getElem?_map, List.getElem?_map]
    rcases Nat.lt_or_ge i es.length with h | h
    · have h1 : es[i]? = some es[i] := List.getElem?_eq_getElem h
      have h2 : es'.toList[i]? = some es'[i] := by rw [Array.getElem?_toList]; exact Array.getElem?_eq_getElem (by omega)
      obtain ⟨a, _, _⟩ := hE i _ _ h1 (by rw [← Array.getElem?_toList]; exact h2)
      rw [h1, h2]
      simp only [Option.map_some]
      have h3 : (es.map (·.key))[i]? = some es[i].key := by rw [List.getElem?_map, h1]; rfl
      rw [k1, List.getElem?_map] at h3
      cases hks : ks[i]? with
      | none => rw [hks] at h3; cases h3
      | some z =>
        rw [hks] at h3
        simp only [Option.map_some, Option.some.injEq] at h3
        rw [← h3] at a
        rw [← h3]
        generalize es'[i].key = kk at a
        cases a; rfl
    · rw [List.getElem?_eq_none h, List.getElem?_eq_none (by simp; omega)]
  have hborn : es'.toList.map (·.born) = es.map (·.born) := by
    apply List.ext_getElem?
    intro i
    rw [List.getElem?_map, List.getElem?_map]
    rcases Nat.lt_or_ge i es.length with h | h
    · have h1 : es[i]? = some es[i] := List.getElem?_eq_getElem h
      have h2 : es'.toList[i]? = some es'[i] := by rw [Array.getElem?_toList]; exact Array.getElem?_eq_getElem (by omega)
      obtain ⟨_, _, a⟩ := hE i _ _ h1 (by rw [← Array.getElem?_toList]; exact h2)
      rw [h1, h2]
      simp only [Option.map_some, a]
    · rw [List.getElem?_eq_none h, List.getElem?_eq_none (by simp; omega)]
  have hlen := Nat.le_of_ble_eq_true o4
  have hrd : ∀ x ∈ es'.toList, ∃ z : Int, x.key = .int .i64 z ∧ WideElems.rd (H := Unit) Tryz.prog 3 (fun _ => some (.lit (.bool true), [])) x = some (.int .i64 z, .lit (.bool true)) := by
    intro x hx
    have hm : x.key ∈ es'.toList.map (·.key) := List.mem_map.2 ⟨x, hx, rfl⟩
    rw [hkey] at hm
    obtain ⟨z, hz, e⟩ := List.mem_map.1 hm
    refine ⟨z, e.symm, ?_⟩
    have hw : (Lit.int .i64 z).wf = true := by
      have := k2 z hz
      simp [Lit.wf, IntKind.min, IntKind.max, IntKind.signed, IntKind.bits]
      omega
    simp only [WideElems.rd, ← e, Maps.keyOf_int_mk hu hw, Option.bind_some, Option.map_some]
  have hst : MapKept.Stamped es' clock := by
    refine ⟨fun x hx => ?_, ?_, ?_⟩
    · have hm : x.born ∈ es'.toList.map (·.born) := List.mem_map.2 ⟨x, hx, rfl⟩
      rw [hborn] at hm
      obtain ⟨y, hy, e⟩ := List.mem_map.1 hm
      rw [← e]
      exact blt_true (List.all_eq_true.1 o1 y hy)
    · rw [hborn]; exact apartN_nodup o2
    · rw [hkey]
      exact List.Pairwise.map _ (fun a b hne e => hne (by cases e; rfl)) (apartZ_nodup o3)
  refine ⟨.map ((es'.toList.map (WideElems.rg (H := Unit) Tryz.prog 3 (fun _ => some (.lit (.bool true), [])))).foldr DataW.insert []), ⟨es', clock, hb, ⟨by unfold maxLen; omega, hst, fun x hx => by obtain ⟨z, _, e⟩ := hrd x hx; exact ⟨_, e⟩⟩, by omega, rfl⟩, ?_, ?_⟩
  · refine ((WideShapes.sorted_perm _).map _).trans ?_
    rw [List.map_map]
    have : es'.toList.map ((fun p : Lit × DataW Unit => intOf p.1) ∘ WideElems.rg (H := Unit) Tryz.prog 3 (fun _ => some (.lit (.bool true), []))) = ks := by
      have h1 : es'.toList.map (fun x => (match x.key with | .int _ z => z | _ => 0 : Int)) = ks := by
        have : es'.toList.map (fun x => (match x.key with | .int _ z => z | _ => 0 : Int)) = (es'.toList.map (·.key)).map (fun k => (match k with | .int _ z => z | _ => 0 : Int)) := by rw [List.map_map]; rfl
        rw [this, hkey, List.map_map]
        exact List.map_id _
      rw [← h1]
      refine List.map_congr_left fun x hx => ?_
      obtain ⟨z, e, hz⟩ := hrd x hx
      have hrg : WideElems.rg (H := Unit) Tryz.prog 3 (fun _ => some (.lit (.bool true), [])) x = (.int .i64 z, .lit (.bool true)) := by
        unfold WideElems.rg
        rw [hz]; rfl
      rw [Function.comp_apply, hrg, e]
      rfl
    rw [this]
  · show ((es'.toList.map _).foldr DataW.insert []).length ≤ _
    rw [Go.length_sorted]
    simp
    omega

theorem sortedF_sound : SoundF Tryz.prog 206 (sortedF [256, 245] 87) := by
  intro args h v h' he
  unfold sortedF at he
  split at he
  · rename_i g first caps
    rcases condQ he with ⟨hg, he2⟩ | ⟨_, he2⟩
    · clear he
      rw [Bool.and_eq_true] at hg
      have hgg : g = 256 ∨ g = 245 := by
        have := hg.1
        simp only [List.any_cons, List.any_nil, Bool.or_false, Bool.or_eq_true] at this
        rcases this with h | h
        · exact .inl (Nat.eq_of_beq_eq_true h)
        · exact .inr (Nat.eq_of_beq_eq_true h)
      split at he2
      · rename_i c hcaps
        -- what the cell holds in a world
        have cell : ∀ {R : Go.Ab.Ren} {w : World} {cs : List Value} {tg : TypeId} {u : Value}, Rel h R w → h.get c = some (.cells (u :: cs) tg false) → ∀ l, R c = some l → l.off + 0 = 0 ∧ l.blk < w.heap.size ∧ ∃ u', w.cell? ⟨l.blk, 0, none⟩ = some u' ∧ VR R u u' := by
          intro R w cs tg u hr hc l hl
          obtain ⟨l', cc, e, fr, h1, h2, h3, h4, h5, h6⟩ := hr.obj c _ hc
          rw [hl] at h1; cases h1
          have h0 := (h6 rfl).1
          obtain ⟨u', a, b⟩ := h5 0 u rfl
          refine ⟨by omega, (Array.getElem?_eq_some_iff.1 h2).1, u', ?_, b⟩
          rw [h0] at a
          simp only [World.cell?, h2]
          simpa using a
        split at he2
        · -- a nil map
          rename_i tg hc
          cases he2
          refine ⟨fun _ => Q.refl _, fun R w args' hr hl _ => ?_⟩
          obtain ⟨u, hu, hvr⟩ := LR.one hl
          obtain ⟨l, hlc, rfl⟩ := cap_of hg.2 hcaps hvr
          obtain ⟨h0, hlt, u', hcell, hv⟩ := cell hr hc l hlc
          cases hv
          have ha : args' = #[.func (.func g) #[] #[.pointer (some ⟨l.blk, 0, none⟩)]] := by
            apply Array.toList_inj.1; rw [hu, h0]
          rw [ha]
          have hseq : SeqGives Fence.wide 2 Tryz.prog g #[.pointer (some ⟨l.blk, 0, none⟩)] encZ (fun ss : List Int => ss = []) 0 w := by
            rcases hgg with rfl | rfl
            · exact Tryz.seqA0 l.blk w hlt hcell
            · exact Tryz.seqB0 l.blk w hlt hcell
          refine (Tryz.sortedOf g hgg _ 0 l.blk w (Nat.zero_le _) (by omega) hseq).mono ?_
          rintro e w' ⟨v, ss, rfl, hss, _, hnil, hb⟩
          rw [hnil.2 hss]
          exact ⟨_, R, rfl, step_below hr hb, .snil _ _⟩
        · -- a map
          rename_i m tg hc
          split at he2
          · rename_i es clock tgm hm
            split at he2
            · rename_i ks hks
              rcases condQ he2 with ⟨hok, he3⟩ | ⟨_, he3⟩
              · clear he2
                -- in a world
                have run : ∀ (R : Go.Ab.Ren) (w : World) (args' : Array Value), Rel h R w → LR R [.func (.func g) first caps] args'.toList →
                    Calls Tryz.prog 206 args' w (SortedPost w (fun ss => ss.Perm ks)) := by
                  intro R w args' hr hl
                  obtain ⟨u, hu, hvr⟩ := LR.one hl
                  obtain ⟨l, hlc, rfl⟩ := cap_of hg.2 hcaps hvr
                  obtain ⟨h0, hlt, u', hcell, hv⟩ := cell hr hc l hlc
                  cases hv with
                  | map _ lm hlm =>
                    have ha : args' = #[.func (.func g) #[] #[.pointer (some ⟨l.blk, 0, none⟩)]] := by
                      apply Array.toList_inj.1; rw [hu, h0]
                    rw [ha]
                    obtain ⟨lm', es', m1, m2, m3, m4⟩ := hr.obj m _ hm
                    rw [hlm] at m1; cases m1
                    obtain ⟨D0, hown, hperm, hsz⟩ := own_of m2 m3 m4 hks hok
                    have hseq : SeqGives Fence.wide 2 Tryz.prog g #[.pointer (some ⟨l.blk, 0, none⟩)] encZ (fun ss => ss.Perm (intKeys D0)) (Maps.size D0) w := by
                      rcases hgg with rfl | rfl
                      · exact Tryz.seqA lm.blk es.length D0 _ l.blk w hlt hcell hown
                      · exact Tryz.seqB lm.blk es.length D0 _ l.blk w hlt hcell hown
                    refine (Tryz.sortedOf g hgg _ _ l.blk w (by unfold maxLen; omega) (by omega) hseq).mono ?_
                    rintro e w' ⟨v, ss, h1, h2, h3⟩
                    exact ⟨v, ss, h1, h2.trans hperm, h3⟩
                split at he3
                · rename_i hnil0
                  cases he3
                  refine ⟨fun _ => Q.refl _, fun R w args' hr hl _ => ?_⟩
                  refine (run R w args' hr hl).mono ?_
                  rintro e w' ⟨v, ss, rfl, hss, _, hnil, hb⟩
                  have hke : ks = [] := by
                    have := (isort_perm ks).length_eq
                    rw [hnil0] at this
                    exact List.length_eq_zero_iff.1 this.symm
                  subst hke
                  have hse : ss = [] := hss.eq_nil
                  rw [hnil.2 hse]
                  exact ⟨_, R, rfl, step_below hr hb, .snil _ _⟩
                · rename_i l0 hne
                  cases he3
                  refine ⟨fun _ => Q.new, fun R w args' hr hl hfr => ?_⟩
                  refine (run R w args' hr hl).mono ?_
                  rintro e w' ⟨v, ss, rfl, hss, hrow, hnil, hb⟩
                  have hms := mergeSort_isort hss
                  rw [hms] at hrow
                  have hlen : (isort ks).length = ss.length := (isort_perm ks).length_eq.trans hss.length_eq.symm
                  have hR : R h.n = none := hfr h.n (Nat.le_refl _) (by simp)
                  rcases hrow.2 with ⟨rfl, hz⟩ | ⟨gb, cap, cur, rfl, hbase, hgb, r1, r2, r3, r4⟩
                  · exfalso
                    apply hne
                    exact List.length_eq_zero_iff.1 (by omega)
                  · have hupd : (R.upd h.n ⟨gb, 0, cur.size⟩) h.n = some ⟨gb, 0, cur.size⟩ := by simp [Go.Ab.Ren.upd]
                    have hor : OR (R.upd h.n ⟨gb, 0, cur.size⟩) w' h.n (.cells ((isort ks).map fun x => .int .i64 x) 87 false) := by
                      refine ⟨⟨gb, 0, cur.size⟩, cur, 3, (0, 0), hupd, hgb, rfl, ?_, fun i u hu => ?_, fun _ => ⟨rfl, .inl rfl⟩⟩
                      · simp only [List.length_map]; show 0 + _ ≤ _; omega
                      · rw [List.getElem?_map, Option.map_eq_some_iff] at hu
                        obtain ⟨z, hz, rfl⟩ := hu
                        refine ⟨.int .i64 z, ?_, .int _ _⟩
                        have h1 : (cur.toList.take (ss.length * 1))[i]? = some (encZ z) := by
                          rw [r4, List.getElem?_map, hz]; rfl
                        rw [List.getElem?_take] at h1
                        split at h1
                        · show cur[0 + i]? = _
                          rw [Nat.zero_add, ← Array.getElem?_toList]
                          exact h1
                        · cases h1
                    refine ⟨_, _, rfl, step_adopt hr hb hR hbase hor, ?_⟩
                    rw [hlen]
                    exact .sliceU _ _ _ _ _ _ _ hupd r1 (.inr ⟨rfl, by show 0 + 0 + cap * 1 = cur.size; omega⟩)
              · cases he3
            · cases he2
          · cases he2
        · cases he2
      · cases he2
    · cases he2
  · cases he
end
end Go.Ab.Tryz
