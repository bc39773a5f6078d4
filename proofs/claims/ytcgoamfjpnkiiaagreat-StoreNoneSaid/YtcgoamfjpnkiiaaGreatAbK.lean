/- Maps written, cleared, read; ranges over strings, over an abstract heap. Conditions: none. -/
import Derived.Test.YtcgoamfjpnkiiaaGreatAbJ
set_option linter.all false
namespace Go.Ab
noncomputable section
open Go.RowKit

section
variable {P : Program} {Ty : Types} {h : H} {R : Ren} {w : World}

theorem ER.ofOR {id : Nat} {es : List MapEntry} {cl : Nat} {tg : TypeId} {l : Loc} (hr : Rel h R w) (hg : h.get id = some (.map es cl tg)) (hl : R id = some l) :
    ∃ es' : Array MapEntry, w.heap[l.blk]? = some (.map es' cl) ∧ ER R es es'.toList := by
  obtain ⟨l', es', h1, h2, h3, h4⟩ := hr.obj id _ hg
  rw [hl] at h1; cases h1
  exact ⟨es', h2, by simpa using h3, fun i x y a b => h4 i x y a (by simpa using b)⟩

theorem run_getMap {r : Nat} {es : Array MapEntry} {cl : Nat} (h : w.heap[r]? = some (.map es cl)) : (getObj r).run P w = .ok (.map es cl) w := by
  simp [getObj, Sem.run, h]

theorem run_setMap {r : Nat} {es : Array MapEntry} {cl : Nat} (h : w.heap[r]? = some (.map es cl)) (o : Obj) : (setObj r o).run P w = .ok () { w with heap := w.heap.setIfInBounds r o } := by
  simp [setObj, Sem.run, h]

theorem map_step (hr : Rel h R w) {id : Nat} {es es2 : List MapEntry} {cl cl2 : Nat} {tg : TypeId} {l : Loc} {ea : Array MapEntry} {ea2 : Array MapEntry} (hg : h.get id = some (.map es cl tg)) (hl : R id = some l)
    (hh : w.heap[l.blk]? = some (.map ea cl)) (he : ER R es2 ea2.toList) :
    Step h R w (h.set id (.map es2 cl2 tg)) R { w with heap := w.heap.setIfInBounds l.blk (.map ea2 cl2) } := by
  have hlt : l.blk < w.heap.size := (Array.getElem?_eq_some_iff.1 hh).1
  refine step_set hr hg rfl rfl hl (by simp) rfl rfl rfl (fun b hb => ?_) ⟨l, ea2, hl, ?_, by simpa using he.1, fun i x y a b => he.2 i x y a (by simpa using b)⟩
  · show (w.heap.setIfInBounds l.blk _)[b]? = _
    rw [Array.getElem?_setIfInBounds, if_neg (by omega)]
  · show (w.heap.setIfInBounds l.blk _)[l.blk]? = _
    rw [Array.getElem?_setIfInBounds, if_pos rfl, if_pos hlt]

theorem aLookup_sound (hT : TyOk P Ty) (hr : Rel h R w) {t : TypeId} {m m' k k' v : Value} {ok : Bool} (he : aLookup Ty h t m k ok = some v) (hm : VR R m m') (hk : VR R k k') :
    ∃ v', (Instr.lookup t m' k' ok).run P w = .ok v' w ∧ VR R v v' := by
  unfold aLookup at he
  split at he
  · rename_i kt et sz bt z fl ht
    obtain ⟨D, hD, hok⟩ := (hT t _ ht).und
    cases D <;> simp only [TD.ok] at hok
    obtain ⟨rfl, rfl⟩ := hok
    split at he
    · rename_i ie es hie hes
      cases hc : (aChk Ty 10 kt k && (ie.d.agg || Nat.beq ie.zero.length 1)) with
      | false => rw [hc] at he; cases he
      | true =>
        rw [hc] at he
        simp only [cond_true] at he
        rw [Bool.and_eq_true] at hc
        obtain ⟨hc1, hc2⟩ := hc
        obtain ⟨hz1, hz2⟩ := zeroV_sound (P := P) (w := w) hT hie hc2
        have hkt : ∃ ik, Ty kt = some ik := by
          unfold aChk at hc1
          cases hk2 : Ty kt with
          | none => rw [hk2] at hc1; simp at hc1
          | some ik => exact ⟨ik, rfl⟩
        obtain ⟨ik, hik⟩ := hkt
        obtain ⟨ea, hea, hm2⟩ : ∃ ea : Array MapEntry, ER R es ea.toList ∧ ((m' = .map none ∧ ea = #[]) ∨ ∃ r cl, m' = .map (some r) ∧ (getObj r).run P w = .ok (.map ea cl) w) := by
          split at hes
          · cases hm; cases hes; exact ⟨#[], ⟨rfl, fun i x y a b => by simp at a⟩, .inl ⟨rfl, rfl⟩⟩
          · rename_i id
            split at hes
            · rename_i es0 cl tg hg
              cases hes
              cases hm with
              | map _ l hl =>
                obtain ⟨ea, h1, h2⟩ := ER.ofOR hr hg hl
                exact ⟨ea, h2, .inr ⟨_, cl, rfl, run_getMap h1⟩⟩
            · cases hes
          · cases hes
        have hch := aChk_sound (P := P) (w := w) hT ea.isEmpty 10 kt k k' 10000 (by omega) hc1 hk
        have hlk : ∀ (r' : Option (Nat × Value)), (Instr.findKey kt k' ea.toList).run P w = .ok r' w → (Instr.lookup t m' k' ok).run P w = (match r' with
            | some (_, v) => .ok (if ok then .tuple #[v, .bool true] else v) w
            | none => .ok (if ok then .tuple #[zeroV ie, .bool false] else zeroV ie) w) := by
          intro r' h1
          rcases hm2 with ⟨rfl, rfl⟩ | ⟨r, cl, rfl, hgo⟩
          · simp only [Instr.lookup, Sem.run_bind, run_underlying hD, Result.andThen_ok, Sem.run_pure, hch, h1]
            cases r' with
            | none => simp [hz1]
            | some p => simp
          · simp only [Instr.lookup, Sem.run_bind, run_underlying hD, Result.andThen_ok, Sem.run_pure, hgo, hch, h1]
            cases r' with
            | none => simp [hz1]
            | some p => simp
        split at he
        · rename_i j v0 hf
          obtain ⟨r', h1, h2⟩ := findKey_sound (w := w) hT hik hk hea hf
          obtain ⟨v', rfl, hv, _⟩ := h2
          cases he
          refine ⟨_, hlk _ h1, ?_⟩
          cases ok with
          | true =>
            refine .tuple _ _ rfl fun i x y a b => ?_
            match i with
            | 0 => simp at a b; subst a; subst b; exact hv
            | 1 => simp at a b; subst a; subst b; exact .bool _
            | i + 2 => simp at a
          | false => exact hv
        · rename_i hf
          obtain ⟨r', h1, h2⟩ := findKey_sound (w := w) hT hik hk hea hf
          subst h2
          cases he
          refine ⟨_, hlk _ h1, ?_⟩
          cases ok with
          | true =>
            refine .tuple _ _ rfl fun i x y a b => ?_
            match i with
            | 0 => simp at a b; subst a; subst b; exact .ofClosed hz2
            | 1 => simp at a b; subst a; subst b; exact .bool _
            | i + 2 => simp at a
          | false => exact .ofClosed hz2
        · cases he
    · cases he
  · cases he

theorem keyStays {old new old' new' : Value} (h1 : sameKey old new = true) (ho : VR R old old') (hn : VR R new new') : (Instr.keyThatStays old' new').run P w = .ok new w ∧ new' = new := by
  simp only [sameKey, Bool.and_eq_true] at h1
  obtain ⟨⟨a, b⟩, c⟩ := h1
  have e1 := closedB_eq a ho
  have e2 := closedB_eq b hn
  subst e1; subst e2
  exact ⟨by simp [Instr.keyThatStays, c], rfl⟩

theorem ER.setAt {es es' : List MapEntry} {i : Nat} {e e' : MapEntry} (h : ER R es es') (he : VR R e.key e'.key ∧ VR R e.val e'.val ∧ e.born = e'.born) : ER R (es.set i e) (es'.set i e') := by
  refine ⟨by simpa using h.1, fun j x y a b => ?_⟩
  rw [List.getElem?_set] at a b
  have := h.1
  split at a
  · rename_i e0
    subst e0
    rw [if_pos rfl] at b
    split at a
    · rw [if_pos (by omega)] at b; cases a; cases b; exact he
    · cases a
  · rename_i e0
    rw [if_neg e0] at b
    exact h.2 j x y a b

theorem ER.snoc {es es' : List MapEntry} {e e' : MapEntry} (h : ER R es es') (he : VR R e.key e'.key ∧ VR R e.val e'.val ∧ e.born = e'.born) : ER R (es ++ [e]) (es' ++ [e']) := by
  refine ⟨by simp [h.1], fun j x y a b => ?_⟩
  by_cases hj : j < es.length
  · rw [List.getElem?_append_left hj] at a
    rw [List.getElem?_append_left (by rw [← h.1]; exact hj)] at b
    exact h.2 j x y a b
  · rw [List.getElem?_append_right (by omega)] at a
    rw [List.getElem?_append_right (by rw [← h.1]; omega), ← h.1] at b
    cases hd : j - es.length with
    | zero => rw [hd] at a b; simp at a b; subst a; subst b; exact he
    | succ n => rw [hd] at a; simp at a

theorem modify_toList (ea : Array MapEntry) (i : Nat) (f : MapEntry → MapEntry) {e : MapEntry} (he : ea[i]? = some e) : (ea.modify i f).toList = ea.toList.set i (f e) := by
  apply List.ext_getElem?
  intro j
  rw [Array.getElem?_toList, Array.getElem?_modify, List.getElem?_set, Array.getElem?_toList, Array.length_toList]
  obtain ⟨hlt, hei⟩ := Array.getElem?_eq_some_iff.1 he
  by_cases hij : i = j
  · subst hij; simp [hlt, hei]
  · simp [hij]

theorem aMapUpdate_sound (hT : TyOk P Ty) (hr : Rel h R w) {t : TypeId} {m m' k k' v v' : Value} {h' : H} (he : aMapUpdate Ty h t m k v = some h') (hm : VR R m m') (hk : VR R k k') (hv : VR R v v') :
    ∃ w', (Instr.mapUpdate t m' k' v').run P w = .ok () w' ∧ Step h R w h' R w' ∧ Q h h' := by
  unfold aMapUpdate at he
  split at he
  · rename_i kt et sz bt z fl id ht
    obtain ⟨D, hD, hok⟩ := (hT t _ ht).und
    cases D <;> simp only [TD.ok] at hok
    obtain ⟨rfl, rfl⟩ := hok
    split at he
    · rename_i es cl tg hg
      cases hc : aChk Ty 10 kt k with
      | false => rw [hc] at he; cases he
      | true =>
        rw [hc] at he
        simp only [cond_true] at he
        have hkt : ∃ ik, Ty kt = some ik := by
          unfold aChk at hc
          cases hk2 : Ty kt with
          | none => rw [hk2] at hc; simp at hc
          | some ik => exact ⟨ik, rfl⟩
        obtain ⟨ik, hik⟩ := hkt
        have hch := aChk_sound (P := P) (w := w) hT false 10 kt k k' 10000 (by omega) hc hk
        cases hm with
        | map _ l hl =>
          obtain ⟨ea, h1, h2⟩ := ER.ofOR hr hg hl
          split at he
          · rename_i i v0 hf
            obtain ⟨r', f1, f2⟩ := findKey_sound (w := w) hT hik hk h2 hf
            obtain ⟨v1, rfl, _, hlt⟩ := f2
            split at he
            · rename_i e0 he0
              cases hsk : sameKey e0.key k with
              | false => rw [hsk] at he; cases he
              | true =>
                rw [hsk] at he
                cases he
                have hlt' : i < ea.toList.length := by rw [← h2.1]; exact hlt
                have hea : ea.toList[i]? = some ea.toList[i] := List.getElem?_eq_getElem hlt'
                obtain ⟨g1, g2, g3⟩ := h2.2 i _ _ he0 hea
                rw [Array.getElem?_toList] at hea
                obtain ⟨k1, k2⟩ := keyStays (P := P) (w := w) hsk g1 hk
                subst k2
                have hst := map_step hr (ea2 := ea.modify i fun e => { e with key := k', val := v' }) (cl2 := cl) hg hl h1 (by
                  rw [modify_toList _ _ _ hea]
                  exact h2.setAt (i := i) (e := { e0 with key := k', val := v }) ⟨hk, hv, g3⟩)
                refine ⟨_, ?_, hst, Q.set hg⟩
                have hgd : ((ea[i]?).map (·.key)).getD k' = ea.toList[i].key := by rw [hea]; rfl
                simp only [Instr.mapUpdate, Sem.run_bind, run_underlying hD, Result.andThen_ok, run_getMap h1, hch, f1, hgd, k1, run_setMap h1]
            · cases he
          · rename_i hf
            obtain ⟨r', f1, f2⟩ := findKey_sound (w := w) hT hik hk h2 hf
            subst f2
            cases he
            have hst := map_step hr (ea2 := ea.push { key := k', val := v', born := cl }) (cl2 := cl + 1) hg hl h1 (by
              rw [Array.toList_push]
              exact h2.snoc (e := { key := k, val := v, born := cl }) ⟨hk, hv, rfl⟩)
            refine ⟨_, ?_, hst, Q.set hg⟩
            simp only [Instr.mapUpdate, Sem.run_bind, run_underlying hD, Result.andThen_ok, run_getMap h1, hch, f1, run_setMap h1]
          · cases he
    · cases he
  · cases he

theorem VR.pair {a b c d : Value} (h1 : VR R a b) (h2 : VR R c d) : VR R (.tuple #[a, c]) (.tuple #[b, d]) := by
  refine .tuple _ _ rfl fun i x y p q => ?_
  match i with
  | 0 => simp at p q; subst p; subst q; exact h1
  | 1 => simp at p q; subst p; subst q; exact h2
  | i + 2 => simp at p

theorem aMapEntry_sound (hT : TyOk P Ty) (hr : Rel h R w) {t : TypeId} {m m' k k' v : Value} {h' : H} (he : aMapEntry Ty h t m k = some (v, h')) (hm : VR R m m') (hk : VR R k k') :
    ∃ v' w', (Instr.mapEntry t m' k').run P w = .ok v' w' ∧ Step h R w h' R w' ∧ VR R v v' ∧ Q h h' := by
  unfold aMapEntry at he
  split at he
  · rename_i kt et sz bt z fl id ht
    obtain ⟨D, hD, hok⟩ := (hT t _ ht).und
    cases D <;> simp only [TD.ok] at hok
    obtain ⟨rfl, rfl⟩ := hok
    split at he
    · rename_i es cl tg ie hg hie
      cases hc : (aChk Ty 10 kt k && (ie.d.agg || Nat.beq ie.zero.length 1)) with
      | false => rw [hc] at he; cases he
      | true =>
        rw [hc] at he
        simp only [cond_true] at he
        rw [Bool.and_eq_true] at hc
        obtain ⟨hc1, hc2⟩ := hc
        obtain ⟨hz1, hz2⟩ := zeroV_sound (P := P) (w := w) hT hie hc2
        have hkt : ∃ ik, Ty kt = some ik := by
          unfold aChk at hc1
          cases hk2 : Ty kt with
          | none => rw [hk2] at hc1; simp at hc1
          | some ik => exact ⟨ik, rfl⟩
        obtain ⟨ik, hik⟩ := hkt
        have hch := aChk_sound (P := P) (w := w) hT false 10 kt k k' 10000 (by omega) hc1 hk
        cases hm with
        | map _ l hl =>
          obtain ⟨ea, h1, h2⟩ := ER.ofOR hr hg hl
          split at he
          · rename_i i v0 hf
            obtain ⟨r', f1, f2⟩ := findKey_sound (w := w) hT hik hk h2 hf
            obtain ⟨v1, rfl, hv1, hlt⟩ := f2
            split at he
            · rename_i e0 he0
              cases hsk : sameKey e0.key k with
              | false => rw [hsk] at he; cases he
              | true =>
                rw [hsk] at he
                cases he
                have hlt' : i < ea.toList.length := by rw [← h2.1]; exact hlt
                have hea : ea.toList[i]? = some ea.toList[i] := List.getElem?_eq_getElem hlt'
                obtain ⟨g1, g2, g3⟩ := h2.2 i _ _ he0 hea
                rw [Array.getElem?_toList] at hea
                obtain ⟨k1, k2⟩ := keyStays (P := P) (w := w) hsk g1 hk
                subst k2
                have hst := map_step hr (ea2 := ea.modify i fun e => { e with key := k' }) (cl2 := cl) hg hl h1 (by
                  rw [modify_toList _ _ _ hea]
                  exact h2.setAt (i := i) (e := { e0 with key := k' }) ⟨hk, g2, g3⟩)
                have hgd : ((ea[i]?).map (·.key)).getD k' = ea.toList[i].key := by rw [hea]; rfl
                have hgb : ((ea[i]?).map (fun x => (x.born : Int))).getD 0 = (e0.born : Int) := by rw [hea]; exact congrArg Int.ofNat g3.symm
                refine ⟨.tuple #[v1, .int .i64 e0.born], _, ?_, hst, hv1.pair (.int _ _), Q.set hg⟩
                simp only [Instr.mapEntry, Sem.run_bind, run_underlying hD, Result.andThen_ok, run_getMap h1, hch, f1, hgd, k1, run_setMap h1, hgb, goInt, Sem.run_pure]
            · cases he
          · rename_i hf
            obtain ⟨r', f1, f2⟩ := findKey_sound (w := w) hT hik hk h2 hf
            subst f2
            cases he
            have hst := map_step hr (ea2 := ea.push { key := k', val := zeroV ie, born := cl }) (cl2 := cl + 1) hg hl h1 (by
              rw [Array.toList_push]
              exact h2.snoc (e := { key := k, val := zeroV ie, born := cl }) ⟨hk, .ofClosed hz2, rfl⟩)
            refine ⟨.tuple #[zeroV ie, .int .i64 cl], _, ?_, hst, (VR.ofClosed hz2).pair (.int _ _), Q.set hg⟩
            simp only [Instr.mapEntry, Sem.run_bind, run_underlying hD, Result.andThen_ok, run_getMap h1, hch, f1, hz1, run_setMap h1, goInt, Sem.run_pure]
          · cases he
    · cases he
  · cases he

theorem bornAt_sound {b : Int} : ∀ (es es' : List MapEntry) (i j : Nat), ER R es es' → bornAt b es i = some j → i ≤ j ∧ j < i + es.length ∧ es'.findIdx? (fun e => decide ((e.born : Int) = b)) = some (j - i)
  | [], _, _, _, _, h => by simp [bornAt] at h
  | e :: es, [], _, _, hr, _ => by simp [ER] at hr
  | e :: es, e' :: es', i, j, hr, h => by
    have h0 := (hr.2 0 e e' rfl rfl).2.2
    simp only [bornAt] at h
    split at h
    · rename_i hb
      cases h
      rw [h0] at hb
      exact ⟨Nat.le_refl _, by simp, by simp [List.findIdx?_cons, hb]⟩
    · rename_i hb
      obtain ⟨a, c, d⟩ := bornAt_sound es es' (i + 1) j hr.tail h
      refine ⟨by omega, by simp; omega, ?_⟩
      rw [h0] at hb
      rw [List.findIdx?_cons]
      simp only [decide_eq_true_eq, hb, if_false, d, Option.map_some, Option.some.injEq]
      omega

theorem aEntryStore_sound (hr : Rel h R w) {t : TypeId} {m m' s s' v v' : Value} {h' : H} (he : aEntryStore h m s v = some h') (hm : VR R m m') (hs : VR R s s') (hv : VR R v v') :
    ∃ w', (Instr.entryStore t m' s' v').run P w = .ok () w' ∧ Step h R w h' R w' ∧ Q h h' := by
  unfold aEntryStore at he
  split at he
  · rename_i id k b
    cases hs
    split at he
    · rename_i es cl tg hg
      cases hm with
      | map _ l hl =>
        obtain ⟨ea, h1, h2⟩ := ER.ofOR hr hg hl
        split at he
        · rename_i i hi
          split at he
          · rename_i e0 he0
            cases he
            obtain ⟨_, hlt, hix⟩ := bornAt_sound es ea.toList 0 i h2 hi
            have hlt' : i < ea.toList.length := by rw [← h2.1]; omega
            have hea : ea.toList[i]? = some ea.toList[i] := List.getElem?_eq_getElem hlt'
            obtain ⟨g1, g2, g3⟩ := h2.2 i _ _ he0 hea
            rw [Array.getElem?_toList] at hea
            have hst := map_step hr (ea2 := ea.modify i fun e => { e with val := v' }) (cl2 := cl) hg hl h1 (by
              rw [modify_toList _ _ _ hea]
              exact h2.setAt (i := i) (e := { e0 with val := v }) ⟨g1, hv, g3⟩)
            refine ⟨_, ?_, hst, Q.set hg⟩
            have hix' : ea.findIdx? (fun e => (e.born : Int) == b) = some i := by
              rw [← List.findIdx?_toArray] at hix
              have hfe : (fun e : MapEntry => ((e.born : Int) == b)) = fun e => decide ((e.born : Int) = b) := by
                funext e; by_cases hh : (e.born : Int) = b <;> simp [hh]
              rw [hfe]
              simpa using hix
            simp only [Instr.entryStore, Sem.run_bind, run_getMap h1, Result.andThen_ok, asInt, asIntOf, Sem.run_pure, hix', run_setMap h1]
          · cases he
        · cases he
    · cases he
  · cases he

theorem aClear_sound (hT : TyOk P Ty) (hr : Rel h R w) {t ty : TypeId} {x x' : Value} {h' : H} (he : aClear Ty h t x = some h') (hx : VR R x x') :
    ∃ w', (Builtin.clear_ #[t] ty #[x']).run P w = .ok (.tuple #[]) w' ∧ Step h R w h' R w' ∧ Q h h' := by
  unfold aClear at he
  split at he
  · rename_i kt et sz bt z fl id ht
    obtain ⟨D, hD, hok⟩ := (hT t _ ht).und
    cases D <;> simp only [TD.ok] at hok
    split at he
    · rename_i es cl tg hg
      cases he
      cases hx with
      | map _ l hl =>
        obtain ⟨ea, h1, h2⟩ := ER.ofOR hr hg hl
        have hst := map_step hr (ea2 := #[]) (es2 := []) (cl2 := cl) hg hl h1 ⟨rfl, fun i x y a b => by simp at a⟩
        refine ⟨_, ?_, hst, Q.set hg⟩
        simp [Builtin.clear_, run_underlying hD, run_getMap h1, run_setMap h1]
    · cases he
  · rename_i kt et sz bt z fl ht
    obtain ⟨D, hD, hok⟩ := (hT t _ ht).und
    cases he
    cases hx
    exact ⟨w, by simp [Builtin.clear_, run_underlying hD], Step.refl hr, Q.refl _⟩
  · rename_i e sz bt z fl base len cap ht
    obtain ⟨D, hD, hok⟩ := (hT t _ ht).und
    cases D <;> simp only [TD.ok] at hok
    subst hok
    cases hb : Nat.beq len 0 with
    | true =>
      rw [hb] at he
      cases he
      have h0 := Nat.eq_of_beq_eq_true hb
      subst h0
      refine ⟨w, ?_, Step.refl hr, Q.refl _⟩
      cases hx <;> simp [Builtin.clear_, run_underlying hD]
    | false =>
      rw [hb] at he
      simp only [cond_false] at he
      have hne : len ≠ 0 := by intro e; subst e; simp at hb
      split at he
      · rename_i id off ie hie
        obtain ⟨lo, hlo, cap', rfl⟩ : ∃ lo, R id = some lo ∧ ∃ cap', x' = .slice (some ⟨lo.blk, lo.off + off, none⟩) len cap' := by
          cases hx with
          | slice _ _ _ _ lo hl hc => exact ⟨lo, hl, _, rfl⟩
          | sliceU _ _ _ e0 cap' a lo hl hlc ha =>
            rcases ha with ha | ⟨rfl, ha⟩
            · omega
            · exact ⟨lo, hl, _, rfl⟩
        obtain ⟨zz, hz, hlz, hzs⟩ := zeroArr (w := w) (R := R) hT hie
        by_cases hz0 : ie.size = 0
        · have hre : rep ie.zero len = [] := by
            apply List.eq_nil_of_length_eq_zero
            rw [rep_length, (hT _ _ hie).zl, hz0]; simp
          have hze : Builtin.zeroCells zz.cells len = #[] := Array.eq_empty_of_size_eq_zero (by simp [Builtin.zeroCells, hzs, hz0])
          rw [hre] at he
          obtain ⟨k1, k2, k3⟩ := write_step (P := P) (us := []) hr he hlo ⟨rfl, fun i x y a b => by simp at a⟩
          refine ⟨_, ?_, k2, k3⟩
          obtain ⟨n, rfl⟩ : ∃ n, len = n + 1 := ⟨len - 1, by omega⟩
          simp [Builtin.clear_, run_underlying hD, hz, hze, storeCells, World.setCells]
        · have hlr : LR R (rep ie.zero len) (Builtin.zeroCells zz.cells len).toList := rep_LR hlz len _ rfl (.inl (by omega))
          obtain ⟨k1, k2, k3⟩ := write_step (P := P) hr he hlo hlr
          refine ⟨_, ?_, k2, k3⟩
          obtain ⟨n, rfl⟩ : ∃ n, len = n + 1 := ⟨len - 1, by omega⟩
          simp [Builtin.clear_, run_underlying hD, hz, k1]
      · cases he
        cases hx
        exact ⟨w, by simp [Builtin.clear_, run_underlying hD], Step.refl hr, Q.refl _⟩
      · cases he
  · cases he

theorem aRangeStr_sound (hT : TyOk P Ty) (hr : Rel h R w) (hn : R h.n = none) {t : TypeId} {x x' v : Value} {h' : H} (he : aRangeStr Ty h t x = some (v, h')) (hx : VR R x x') :
    ∃ v' w' R', (Instr.range t x').run P w = .ok v' w' ∧ Step h R w h' R' w' ∧ VR R' v v' ∧ Q h h' := by
  unfold aRangeStr at he
  have hu : (R.upd h.n ⟨w.heap.size, 0, 0⟩) h.n = some ⟨w.heap.size, 0, 0⟩ := by simp [Ren.upd]
  split at he
  · rename_i sz bt z fl s ht
    obtain ⟨D, hD, hok⟩ := (hT t _ ht).und
    cases D <;> simp only [TD.ok] at hok
    cases hx
    cases he
    refine ⟨.pointer (some ⟨w.heap.size, 0, none⟩), _, _, ?_, step_new hr hn (.stringIter s 0) 0 (.iter s 0) ⟨_, hu, by simp, rfl⟩, ?_, Q.new⟩
    · simp only [Instr.range, Sem.run_bind, run_underlying hD, Result.andThen_ok, Sem.run_pure, run_newObj]
    · have := VR.ptr (R := R.upd h.n ⟨w.heap.size, 0, 0⟩) h.n 0 _ hu
      simpa using this
  · rename_i k e sz bt z fl ht
    obtain ⟨D, hD, hok⟩ := (hT t _ ht).und
    cases D <;> simp only [TD.ok] at hok
    cases hx
    cases he
    refine ⟨.pointer (some ⟨w.heap.size, 0, none⟩), _, _, ?_, step_new hr hn (.mapIter none 0 #[] 0) 0 (.miter none 0 [] 0) ⟨_, none, hu, by simp, rfl, .inl ⟨rfl, rfl⟩⟩, ?_, Q.new⟩
    · simp only [Instr.range, Sem.run_bind, run_underlying hD, Result.andThen_ok, Sem.run_pure, run_newObj]
    · have := VR.ptr (R := R.upd h.n ⟨w.heap.size, 0, 0⟩) h.n 0 _ hu
      simpa using this
  · rename_i k e sz bt z fl id ht
    obtain ⟨D, hD, hok⟩ := (hT t _ ht).und
    cases D <;> simp only [TD.ok] at hok
    split at he
    · rename_i es clock tg hg
      cases hx with
      | map _ l hl =>
        cases he
        obtain ⟨l', es', h1, h2, _⟩ := hr.obj id _ hg
        rw [hl] at h1; cases h1
        have hgo : (getObj l.blk).run P w = .ok (.map es' clock) w := by simp [getObj, Sem.run, h2]
        have hne : id ≠ h.n := by intro e; rw [e, hn] at hl; cases hl
        refine ⟨.pointer (some ⟨w.heap.size, 0, none⟩), _, _, ?_, step_new hr hn (.mapIter (some l.blk) clock #[] clock) 0 (.miter (some id) clock [] clock) ⟨_, some l.blk, hu, by simp, rfl, .inr ⟨id, l, rfl, by simp [Ren.upd, hne, hl], rfl⟩⟩, ?_, Q.new⟩
        · simp only [Instr.range, Sem.run_bind, run_underlying hD, Result.andThen_ok, Sem.run_pure, run_newObj, hgo]
        · have := VR.ptr (R := R.upd h.n ⟨w.heap.size, 0, 0⟩) h.n 0 _ hu
          simpa using this
    · cases he
  · cases he

theorem condQ {α : Type} {b : Bool} {x y : Option α} {z : α} (h : cond b x y = some z) : (b = true ∧ x = some z) ∨ (b = false ∧ y = some z) := by
  cases b
  · exact .inr ⟨rfl, h⟩
  · exact .inl ⟨rfl, h⟩

/-- Entries that are one but for the names of places. -/
def E1 (R : Ren) (x y : MapEntry) : Prop := VR R x.key y.key ∧ VR R x.val y.val ∧ x.born = y.born

theorem filter_ER {R : Ren} {p : Nat → Bool} : ∀ {es es' : List MapEntry}, es.length = es'.length → (∀ (i : Nat) x y, es[i]? = some x → es'[i]? = some y → E1 R x y) →
    (es.filter fun e => p e.born).length = (es'.filter fun e => p e.born).length ∧ ∀ (i : Nat) x y, (es.filter fun e => p e.born)[i]? = some x → (es'.filter fun e => p e.born)[i]? = some y → E1 R x y
  | [], [], _, h => ⟨rfl, fun i x y hx _ => by simp at hx⟩
  | x :: es, y :: es', hl, h => by
    have h0 := h 0 x y rfl rfl
    have ih := filter_ER (p := p) (es := es) (es' := es') (by simpa using hl) fun i x y hx hy => h (i + 1) x y (by simpa using hx) (by simpa using hy)
    simp only [List.filter_cons]
    rw [h0.2.2]
    cases p y.born with
    | true =>
      simp only [if_true]
      refine ⟨by simpa using ih.1, fun i a b ha hb => ?_⟩
      cases i with
      | zero => simp at ha hb; subst ha; subst hb; exact h0
      | succ i => exact ih.2 i a b (by simpa using ha) (by simpa using hb)
    | false => simpa using ih
  | [], _ :: _, h, _ => by simp at h
  | _ :: _, [], h, _ => by simp at h

theorem all_ER {R : Ren} {p : Nat → Bool} : ∀ {es es' : List MapEntry}, es.length = es'.length → (∀ (i : Nat) x y, es[i]? = some x → es'[i]? = some y → E1 R x y) → (es.all fun e => p e.born) = es'.all fun e => p e.born
  | [], [], _, h => rfl
  | x :: es, y :: es', hl, h => by
    have h0 := h 0 x y rfl rfl
    have ih := all_ER (p := p) (es := es) (es' := es') (by simpa using hl) fun i x y hx hy => h (i + 1) x y (by simpa using hx) (by simpa using hy)
    simp only [List.all_cons, ih, h0.2.2]
  | [], _ :: _, h, _ => by simp at h
  | _ :: _, [], h, _ => by simp at h

theorem aNextMap_sound (hr : Rel h R w) {x x' v : Value} {h' : H} {ty : TypeId} (he : aNextMap h x = some (v, h')) (hx : VR R x x') :
    ∃ v' w', (Instr.next x' false ty).run P w = .ok v' w' ∧ Step h R w h' R w' ∧ VR R v v' ∧ Q h h' := by
  have hfal : VR R (.tuple #[.bool false]) (.tuple #[.bool false]) := .tuple _ _ rfl fun i x y p q => by
    match i with
    | 0 => simp at p q; subst p; subst q; exact .bool _
    | i + 1 => simp at p
  unfold aNextMap at he
  split at he
  · rename_i id
    cases hx with
    | ptr _ _ l hl =>
      split at he
      · rename_i s sn la hg
        cases he
        obtain ⟨l', m', h1, h2, h0, h3⟩ := hr.obj id _ hg
        rw [hl] at h1; cases h1
        rcases h3 with ⟨_, rfl⟩ | ⟨k, _, hk, _⟩
        · have hgo : (getObj l.blk).run P w = .ok (.mapIter none s sn.toArray la) w := by simp [getObj, Sem.run, h2]
          refine ⟨_, w, ?_, Step.refl hr, hfal, Q.refl _⟩
          simp only [Instr.next, h0, Nat.add_zero]
          simp only [Sem.run_bind, hgo, Result.andThen_ok, Sem.run_pure]
        · cases hk
      · rename_i m since seen last hg
        obtain ⟨l', m', h1, h2, h0, h3⟩ := hr.obj id _ hg
        rw [hl] at h1; cases h1
        rcases h3 with ⟨hm, _⟩ | ⟨k, lm, hk, hkm, rfl⟩
        · cases hm
        cases hk
        split at he
        · rename_i es clock tg hgm
          obtain ⟨lm', es', g1, g2, g3, g4⟩ := hr.obj m _ hgm
          rw [hkm] at g1; cases g1
          have hgo : (getObj l.blk).run P w = .ok (.mapIter (some lm.blk) since seen.toArray last) w := by simp [getObj, Sem.run, h2]
          have hgm' : (getObj lm.blk).run P w = .ok (.map es' clock) w := by simp [getObj, Sem.run, g2]
          have hER : ∀ (i : Nat) x y, es[i]? = some x → es'.toList[i]? = some y → E1 R x y := fun i x y hx hy => g4 i x y hx (by simpa using hy)
          have hlen : es.length = es'.toList.length := by simpa using g3
          -- the guard, and what is left
          have hguard : ∀ r, leftOf since seen last es = some r → (!seen.toArray.isEmpty && !es'.isEmpty && es'.all (fun e => decide (e.born ≥ last))) = false := by
            intro r hr'
            unfold leftOf at hr'
            rcases condQ hr' with ⟨_, hr'⟩ | ⟨hb, _⟩
            · cases hr'
            · rw [← hb]
              have e1 : seen.toArray.isEmpty = seen.isEmpty := by cases seen <;> simp
              have e2 : es'.isEmpty = es.isEmpty := by
                rw [Bool.eq_iff_iff]
                simp only [Array.isEmpty_iff_size_eq_zero, List.isEmpty_iff_length_eq_zero]
                omega
              have e3 : es'.all (fun e => decide (e.born ≥ last)) = es.all (fun e => Nat.ble last e.born) := by
                rw [all_ER (p := fun b => Nat.ble last b) hlen hER, ← Array.all_toList]
                congr 1
                funext e
                rw [Bool.eq_iff_iff]
                simp [Nat.ble_eq]
              rw [e1, e2, e3]
          have hfe : ∀ e : MapEntry, seen.toArray.contains e.born = seen.any (fun b => Nat.beq b e.born) := by
            intro e
            rw [Bool.eq_iff_iff]
            simp only [List.contains_toArray, List.contains_iff_mem, List.any_eq_true]
            constructor
            · intro hm; exact ⟨_, hm, Nat.beq_refl _⟩
            · rintro ⟨b, hb, he⟩; rw [← Nat.eq_of_beq_eq_true he]; exact hb
          have hleft : (es'.filter fun e => !seen.toArray.contains e.born).toList = es'.toList.filter (fun e => !seen.any (fun b => Nat.beq b e.born)) := by
            rw [Array.toList_filter]
            congr 1
            funext e
            rw [hfe]
          have hfER := filter_ER (R := R) (p := fun b => !seen.any (fun b' => Nat.beq b' b)) hlen hER
          cases hlo : leftOf since seen last es with
          | none => rw [hlo] at he; cases he
          | some r =>
            rw [hlo] at he
            have hg0 := hguard r hlo
            unfold leftOf at hlo
            rcases condQ hlo with ⟨_, hlo⟩ | ⟨_, hlo⟩
            · cases hlo
            · split at hlo
              · rename_i hnil
                cases hlo
                cases he
                rw [hnil] at hfER
                have hn' : es'.toList.filter (fun e => !seen.any (fun b => Nat.beq b e.born)) = [] := List.length_eq_zero_iff.1 hfER.1.symm
                have hn2 : (es'.filter fun e => !seen.toArray.contains e.born) = #[] := by
                  apply Array.toList_inj.1; rw [hleft, hn']
                refine ⟨_, w, ?_, Step.refl hr, hfal, Q.refl _⟩
                simp only [Instr.next, h0, Nat.add_zero]
                have c1 : ((if (Array.filter (fun x : MapEntry => decide (x.born < since)) #[]).isEmpty = true then #[none] else #[]) ++ Array.map some (Array.filter (fun x : MapEntry => decide (x.born < since)) #[] ++ Array.filter (fun x : MapEntry => decide (x.born ≥ since)) #[])) = #[none] := by simp
                simp only [Sem.run_bind, hgo, Result.andThen_ok, Sem.run_pure, hgm', hg0, Bool.false_eq_true, if_false, hn2, c1]
                rfl
              · rename_i e hone
                rcases condQ hlo with ⟨hbs, hlo⟩ | ⟨_, hlo⟩
                · cases hlo
                  cases he
                  rw [hone] at hfER
                  obtain ⟨e', hone'⟩ : ∃ e', es'.toList.filter (fun e => !seen.any (fun b => Nat.beq b e.born)) = [e'] := List.length_eq_one_iff.1 hfER.1.symm
                  have hn2 : (es'.filter fun e => !seen.toArray.contains e.born) = #[e'] := by
                    apply Array.toList_inj.1; rw [hleft, hone']
                  rw [hone'] at hfER
                  obtain ⟨k1, k2, k3⟩ := hfER.2 0 e e' rfl rfl
                  have hb' : e'.born < since := by rw [← k3]; exact blt_true hbs
                  have hlt : l.blk < w.heap.size := (Array.getElem?_eq_some_iff.1 h2).1
                  have hset : (setObj l.blk (.mapIter (some lm.blk) since (seen.toArray.push e'.born) clock)).run P w = .ok () { w with heap := w.heap.setIfInBounds l.blk (.mapIter (some lm.blk) since (seen.toArray.push e'.born) clock) } := by
                    simp [setObj, Sem.run, h2]
                  refine ⟨.tuple #[.bool true, e'.key, e'.val], _, ?_, step_set (w' := { w with heap := w.heap.setIfInBounds l.blk (.mapIter (some lm.blk) since (seen.toArray.push e'.born) clock) }) hr hg rfl rfl hl (by simp) rfl rfl rfl (fun b hb => ?_) ⟨l, some lm.blk, hl, ?_, h0, .inr ⟨m, lm, rfl, hkm, rfl⟩⟩, ?_, Q.set hg⟩
                  · simp only [Instr.next, h0, Nat.add_zero]
                    have f1 : (#[e'].filter fun x => decide (x.born < since)) = #[e'] := by simp [hb']
                    have f2 : (#[e'].filter fun x => decide (x.born ≥ since)) = #[] := by simp; omega
                    have c1 : ((if (#[e'] : Array MapEntry).isEmpty = true then #[none] else #[]) ++ Array.map some (#[e'] ++ #[])) = #[some e'] := by simp
                    simp only [Sem.run_bind, hgo, Result.andThen_ok, Sem.run_pure, hgm', hg0, Bool.false_eq_true, if_false, hn2, f1, f2, c1]
                    have c2 : (choose (.mapNext (#[some e'] : Array (Option MapEntry)).size)).run P w = .ok 0 w := rfl
                    rw [c2]
                    simp only [Result.andThen_ok, show (#[some e'] : Array (Option MapEntry))[0]? = some (some e') from rfl, Sem.run_bind, hset, Sem.run_pure]
                  · show (w.heap.setIfInBounds l.blk _)[b]? = _
                    rw [Array.getElem?_setIfInBounds, if_neg (by omega)]
                  · show (w.heap.setIfInBounds l.blk _)[l.blk]? = _
                    rw [Array.getElem?_setIfInBounds, if_pos rfl, if_pos hlt]
                    simp [k3]
                  · refine .tuple _ _ rfl fun i x y p q => ?_
                    match i with
                    | 0 => simp at p q; subst p; subst q; exact .bool _
                    | 1 => simp at p q; subst p; subst q; exact k1
                    | 2 => simp at p q; subst p; subst q; exact k2
                    | i + 3 => simp at p
                · cases hlo
              · cases hlo
        · cases he
      · cases he
  · cases he

theorem find_ER {R : Ren} {p : Nat → Bool} : ∀ {es es' : List MapEntry}, es.length = es'.length → (∀ (i : Nat) x y, es[i]? = some x → es'[i]? = some y → E1 R x y) →
    ∀ {e : MapEntry}, es.find? (fun e => p e.born) = some e → ∃ e', es'.find? (fun e => p e.born) = some e' ∧ E1 R e e'
  | [], [], _, _, e, h => by cases h
  | x :: es, y :: es', hl, h, e, he => by
    have h0 := h 0 x y rfl rfl
    rw [List.find?_cons] at he
    rw [List.find?_cons, ← h0.2.2]
    cases hp : p x.born with
    | true => rw [hp] at he; cases he; exact ⟨y, rfl, h0⟩
    | false =>
      rw [hp] at he
      exact find_ER (by simpa using hl) (fun i x y hx hy => h (i + 1) x y (by simpa using hx) (by simpa using hy)) he
  | [], _ :: _, h, _, _, _ => by simp at h
  | _ :: _, [], h, _, _, _ => by simp at h

theorem aEntry_sound (hr : Rel h R w) {x x' v : Value} (he : aEntry h x = some v) (hx : VR R x x') :
    ∃ v', (Instr.entry x').run P w = .ok v' w ∧ VR R v v' := by
  unfold aEntry at he
  split at he
  · rename_i id
    cases hx with
    | ptr _ _ l hl =>
      split at he
      · rename_i m since seen last hg
        obtain ⟨l', m', h1, h2, h0, h3⟩ := hr.obj id _ hg
        rw [hl] at h1; cases h1
        rcases h3 with ⟨hm, _⟩ | ⟨k, lm, hk, hkm, rfl⟩
        · cases hm
        cases hk
        split at he
        · cases he
        · rename_i stamp hst
          split at he
          · rename_i es clock tg hgm
            obtain ⟨lm', es', g1, g2, g3, g4⟩ := hr.obj m _ hgm
            rw [hkm] at g1; cases g1
            rcases condQ he with ⟨hcl, he2⟩ | ⟨_, he2⟩
            · clear he
              have hcl := Nat.eq_of_beq_eq_true hcl
              subst hcl
              split at he2
              · rename_i e hfe
                cases he2
                have hER : ∀ (i : Nat) x y, es[i]? = some x → es'.toList[i]? = some y → E1 R x y := fun i x y hx hy => g4 i x y hx (by simpa using hy)
                obtain ⟨e', he', k1, k2, k3⟩ := find_ER (p := fun b => Nat.beq b stamp) (by simpa using g3) hER hfe
                have hgo : (getObj l.blk).run P w = .ok (.mapIter (some lm.blk) since seen.toArray clock) w := by simp [getObj, Sem.run, h2]
                have hgm' : (getObj lm.blk).run P w = .ok (.map es' clock) w := by simp [getObj, Sem.run, g2]
                have hb : seen.toArray.back? = some stamp := by simpa using hst
                have hfd : es'.find? (fun e => e.born == stamp) = some e' := by
                  rw [← Array.find?_toList, ← he']
                  congr 1
                  funext e
                  rw [Bool.eq_iff_iff, beq_iff_eq]
                  exact ⟨fun h => by rw [h]; exact Nat.beq_refl _, Nat.eq_of_beq_eq_true⟩
                refine ⟨.tuple #[e'.key, e'.val], ?_, ?_⟩
                · simp only [Instr.entry, h0, Nat.add_zero]
                  simp [hgo, hgm', hb, hfd]
                · refine .tuple _ _ rfl fun i x y p q => ?_
                  match i with
                  | 0 => simp at p q; subst p; subst q; exact k1
                  | 1 => simp at p q; subst p; subst q; exact k2
                  | i + 2 => simp at p
              · cases he2
            · cases he2
          · cases he
      · cases he
  · cases he

theorem aNextStr_sound (hr : Rel h R w) {x x' v : Value} {h' : H} {ty : TypeId} (he : aNextStr h x = some (v, h')) (hx : VR R x x') :
    ∃ w', (Instr.next x' true ty).run P w = .ok v w' ∧ Step h R w h' R w' ∧ VR R v v ∧ Q h h' := by
  unfold aNextStr at he
  split at he
  · rename_i id
    split at he
    · rename_i s pos hg
      cases hx with
      | ptr _ _ l hl =>
        obtain ⟨l', h1, h2, h0⟩ := hr.obj id _ hg
        rw [hl] at h1; cases h1
        have hgo : (getObj l.blk).run P w = .ok (.stringIter s pos) w := by simp [getObj, Sem.run, h2]
        have hlt : l.blk < w.heap.size := (Array.getElem?_eq_some_iff.1 h2).1
        cases hb : Nat.blt pos s.size with
        | true =>
          rw [hb] at he
          cases he
          have hp := blt_true hb
          have hset : (setObj l.blk (.stringIter s (pos + (Utf8.decode s pos).2))).run P w = .ok () { w with heap := w.heap.setIfInBounds l.blk (.stringIter s (pos + (Utf8.decode s pos).2)) } := by
            simp [setObj, Sem.run, h2]
          refine ⟨_, ?_, step_set (w' := { w with heap := w.heap.setIfInBounds l.blk (.stringIter s (pos + (Utf8.decode s pos).2)) }) hr hg rfl rfl hl (by simp) rfl rfl rfl (fun b hb => ?_) ⟨l, hl, ?_, h0⟩, ?_, Q.set hg⟩
          · simp only [Instr.next, h0, Nat.add_zero]
            simp only [Sem.run_bind, hgo, Result.andThen_ok, hp, if_true, hset, Sem.run_pure, goInt]
          · show (w.heap.setIfInBounds l.blk _)[b]? = _
            rw [Array.getElem?_setIfInBounds, if_neg (by omega)]
          · show (w.heap.setIfInBounds l.blk _)[l.blk]? = _
            rw [Array.getElem?_setIfInBounds, if_pos rfl, if_pos hlt]
          · refine .tuple _ _ rfl fun i x y p q => ?_
            match i with
            | 0 => simp at p q; subst p; subst q; exact .bool _
            | 1 => simp at p q; subst p; subst q; exact .int _ _
            | 2 => simp at p q; subst p; subst q; exact .int _ _
            | i + 3 => simp at p
        | false =>
          rw [hb] at he
          cases he
          have hp : ¬ pos < s.size := by
            intro hp
            have : Nat.blt pos s.size = true := Nat.ble_eq_true_of_le hp
            rw [this] at hb; cases hb
          refine ⟨w, ?_, Step.refl hr, ?_, Q.refl _⟩
          · simp only [Instr.next, h0, Nat.add_zero]
            simp only [Sem.run_bind, hgo, Result.andThen_ok, hp, if_false, Sem.run_pure]
          · refine .tuple _ _ rfl fun i x y p q => ?_
            match i with
            | 0 => simp at p q; subst p; subst q; exact .bool _
            | i + 1 => simp at p
    · cases he
  · cases he
end
end
end Go.Ab
