/- What one operation leaves alone, seen from the abstract heap alone. Conditions: none. -/
import Derived.Test.YtcgoamfjpnkiiaaGreatAbL
set_option linter.all false
namespace Go.Ab
noncomputable section
open Go.RowKit

section
variable {Ty : Types} {h h' : H}

theorem write_Q {id off : Nat} {vs : List Value} (he : h.write id off vs = some h') : Q h h' := by
  rw [H.write_def] at he
  split at he
  · rename_i cs tag hg
    cases hc : (Nat.ble (off + vs.length) cs.length && vs.all oneCell) with
    | false => rw [hc] at he; cases he
    | true => rw [hc] at he; cases he; exact Q.set hg
  · cases he

theorem aStore_Q {t : TypeId} {x v : Value} (he : aStore Ty h t x v = some h') : Q h h' := by
  unfold aStore at he
  split at he
  · rename_i id off i ht
    cases hb : Nat.beq v.cells.toList.length i.size with
    | false => rw [hb] at he; cases he
    | true => rw [hb] at he; exact write_Q he
  · cases he

theorem aGrow_Q {e : TypeId} {ie : TI} {need : Nat} {cs : List Value} {v : Value} (he : aGrow h e ie need cs = some (v, h')) : Q h h' := by
  unfold aGrow at he
  split at he
  · cases he; exact Q.new
  · cases he

theorem aAppend_Q {t0 t1 : TypeId} {s x v : Value} (he : aAppend Ty h t0 t1 s x = some (v, h')) : Q h h' := by
  unfold aAppend at he
  simp only [Fast.app_eq, Fast.len_eq, Fast.all_eq, Fast.take_eq, Fast.drop_eq] at he
  split at he
  · split at he
    · cases he
    · rcases condQ he with ⟨_, he⟩ | ⟨_, he⟩
      · cases he
      · split at he
        · cases he
        · split at he
          · split at he
            · rcases condQ he with ⟨_, he⟩ | ⟨_, he⟩
              · cases he; exact Q.refl _
              · exact aGrow_Q he
            · cases he
          · rcases condQ he with ⟨_, he⟩ | ⟨_, he⟩
            · rcases condQ he with ⟨_, he⟩ | ⟨_, he⟩
              · rcases condQ he with ⟨_, he⟩ | ⟨_, he⟩
                · cases he; exact Q.refl _
                · split at he
                  · rename_i hw; cases he; exact write_Q hw
                  · cases he
              · rcases condQ he with ⟨_, he⟩ | ⟨_, he⟩
                · split at he
                  · exact aGrow_Q he
                  · cases he
                · cases he
            · rcases condQ he with ⟨_, he⟩ | ⟨_, he⟩
              · rcases condQ he with ⟨_, he⟩ | ⟨_, he⟩
                · cases he; exact Q.refl _
                · split at he
                  · rcases condQ he with ⟨_, he⟩ | ⟨_, he⟩
                    · split at he
                      · rename_i hw; cases he; exact write_Q hw
                      · cases he
                    · rcases condQ he with ⟨_, he⟩ | ⟨_, he⟩
                      · exact Q.del.trans (aGrow_Q he)
                      · cases he
                  · cases he
              · cases he
          · cases he
  · cases he

theorem aCopy_Q {t0 : TypeId} {d s v : Value} (he : aCopy Ty h t0 d s = some (v, h')) : Q h h' := by
  unfold aCopy at he
  split at he
  · split at he
    · cases he
    · rcases condQ he with ⟨_, he⟩ | ⟨_, he⟩
      · cases he; exact Q.refl _
      · split at he
        · split at he
          · rename_i hw; cases he; exact write_Q hw
          · cases he
        · cases he
  · cases he

theorem aClear_Q {t : TypeId} {x : Value} (he : aClear Ty h t x = some h') : Q h h' := by
  unfold aClear at he
  split at he
  · split at he
    · rename_i hg; cases he; exact Q.set hg
    · cases he
  · cases he; exact Q.refl _
  · rcases condQ he with ⟨_, he⟩ | ⟨_, he⟩
    · cases he; exact Q.refl _
    · split at he
      · exact write_Q he
      · cases he; exact Q.refl _
      · cases he
  · cases he

theorem aStrBytes_Q {src dst : TypeId} {x v : Value} (he : aStrBytes Ty h src dst x = some (v, h')) : Q h h' := by
  unfold aStrBytes at he
  split at he
  · split at he
    · cases he; exact Q.refl _
    · cases he
  · split at he
    · rcases condQ he with ⟨_, he⟩ | ⟨_, he⟩
      · cases he; exact Q.refl _
      · split at he
        · split at he
          · cases he; exact Q.refl _
          · cases he
        · cases he
    · cases he
  · split at he
    · cases he; exact Q.new
    · cases he
  · split at he
    · rcases condQ he with ⟨_, he⟩ | ⟨_, he⟩
      · cases he; exact Q.refl _
      · cases he
    · cases he
  · cases he

theorem aMapUpdate_Q {t : TypeId} {m k v : Value} (he : aMapUpdate Ty h t m k v = some h') : Q h h' := by
  unfold aMapUpdate at he
  split at he
  · split at he
    · rename_i hg
      rcases condQ he with ⟨_, he⟩ | ⟨_, he⟩
      · split at he
        · split at he
          · rcases condQ he with ⟨_, he⟩ | ⟨_, he⟩
            · cases he; exact Q.set hg
            · cases he
          · cases he
        · cases he; exact Q.set hg
        · cases he
      · cases he
    · cases he
  · cases he

theorem aMapEntry_Q {t : TypeId} {m k v : Value} (he : aMapEntry Ty h t m k = some (v, h')) : Q h h' := by
  unfold aMapEntry at he
  split at he
  · split at he
    · rename_i hg _
      rcases condQ he with ⟨_, he⟩ | ⟨_, he⟩
      · split at he
        · split at he
          · rcases condQ he with ⟨_, he⟩ | ⟨_, he⟩
            · cases he; exact Q.set hg
            · cases he
          · cases he
        · cases he; exact Q.set hg
        · cases he
      · cases he
    · cases he
  · cases he

theorem aEntryStore_Q {m s v : Value} (he : aEntryStore h m s v = some h') : Q h h' := by
  unfold aEntryStore at he
  split at he
  · split at he
    · rename_i hg
      split at he
      · split at he
        · cases he; exact Q.set hg
        · cases he
      · cases he
    · cases he
  · cases he

theorem aRangeStr_Q {t : TypeId} {x v : Value} (he : aRangeStr Ty h t x = some (v, h')) : Q h h' := by
  unfold aRangeStr at he
  split at he
  · cases he; exact Q.new
  · cases he; exact Q.new
  · split at he
    · cases he; exact Q.new
    · cases he
  · cases he

theorem aNextMap_Q {x v : Value} (he : aNextMap h x = some (v, h')) : Q h h' := by
  unfold aNextMap at he
  split at he
  · split at he
    · cases he; exact Q.refl _
    · rename_i hg
      split at he
      · split at he
        · cases he; exact Q.refl _
        · cases he; exact Q.set hg
        · cases he
      · cases he
    · cases he
  · cases he

theorem aNextStr_Q {x v : Value} (he : aNextStr h x = some (v, h')) : Q h h' := by
  unfold aNextStr at he
  split at he
  · split at he
    · rename_i hg
      rcases condQ he with ⟨_, he⟩ | ⟨_, he⟩
      · cases he; exact Q.set hg
      · cases he; exact Q.refl _
    · cases he
  · cases he

theorem aAlloc_Q {e : TypeId} {v : Value} (he : aAlloc Ty h e = some (v, h')) : Q h h' := by
  unfold aAlloc at he
  split at he
  · cases he; exact Q.new
  · cases he

theorem aBuildSlice_Q {t : TypeId} {n : Nat} {ps : List (Nat × Value)} {v : Value} (he : aBuildSlice Ty h t n ps = some (v, h')) : Q h h' := by
  unfold aBuildSlice at he
  split at he
  · split at he
    · split at he
      · split at he
        · cases he; exact Q.new
        · cases he
      · cases he
    · cases he
  · cases he

theorem aMakeSlice_Q {t : TypeId} {l c v : Value} (he : aMakeSlice Ty h t l c = some (v, h')) : Q h h' := by
  unfold aMakeSlice at he
  split at he
  · split at he
    · split at he
      · cases he; exact Q.new
      · cases he
    · cases he
  · cases he

theorem mapQ {α : Type} {x : Option α} {v : α} {h h' : H} {y : α} (he : x.map (·, h) = some (y, h')) : Q h h' := by
  simp only [Option.map_eq_some_iff, Prod.mk.injEq] at he
  obtain ⟨_, _, _, rfl⟩ := he
  exact Q.refl _

theorem mapQ' {x : Option Value} {v : Value} (he : x.map (·, h) = some (v, h')) : h' = h := by
  simp only [Option.map_eq_some_iff, Prod.mk.injEq] at he
  obtain ⟨_, _, _, rfl⟩ := he
  rfl

theorem mapU {x : Option H} {v : Value} (he : x.map (undefA, ·) = some (v, h')) : x = some h' := by
  simp only [Option.map_eq_some_iff, Prod.mk.injEq] at he
  obtain ⟨u, hu, _, rfl⟩ := he
  exact hu

def QT (F : FunT) : Prop := ∀ g f, F g = some f → ∀ args h v h', f args h = some (v, h') → Wf h → Q h h'

theorem SoundT.q {P : Program} {F : FunT} (hF : SoundT P F) : QT F := fun g f hg args h v h' he => ((hF g f hg).2 args h v h' he).1

theorem aBuiltin_Q {b : Builtin} {ts : List TypeId} {args : List Value} {v : Value} (he : aBuiltin Ty b ts args h = some (v, h')) : Q h h' := by
  unfold aBuiltin at he
  split at he
  · exact aAppend_Q he
  · split at he
    · cases he
    · exact aCopy_Q he
  · rw [mapQ' he]; exact Q.refl _
  · rw [mapQ' he]; exact Q.refl _
  · exact aClear_Q (mapU he)
  · rw [mapQ' he]; exact Q.refl _
  · rw [mapQ' he]; exact Q.refl _
  · rw [mapQ' he]; exact Q.refl _
  · rw [mapQ' he]; exact Q.refl _
  · rw [mapQ' he]; exact Q.refl _
  · cases he

theorem aOp_Q {F : FunT} (hF : QT F) (hW : Wf h) {ev : Operand → Option Value} {op : Op} {v : Value} (he : aOp Ty F ev op h = some (v, h')) : Q h h' := by
  unfold aOp at he
  split at he
  all_goals first
    | (cases he; done)
    | (simp only [Option.some.injEq, Prod.mk.injEq] at he; rw [← he.2]; exact Q.refl _)
    | exact aAlloc_Q he
    | (split at he <;> first
        | (cases he; done)
        | (simp only [Option.some.injEq, Prod.mk.injEq] at he; rw [← he.2]; exact Q.refl _)
        | (rw [mapQ' he]; exact Q.refl _)
        | exact aStore_Q (mapU he)
        | exact aMapUpdate_Q (mapU he)
        | exact aEntryStore_Q (mapU he)
        | exact aMapEntry_Q he
        | exact aRangeStr_Q he
        | exact aNextStr_Q he
        | exact aNextMap_Q he
        | exact aBuildSlice_Q he
        | exact aMakeSlice_Q he
        | exact aBuiltin_Q he
        | (simp only [Option.some.injEq, Prod.mk.injEq] at he; rw [← he.2]; exact Q.new)
        | (split at he
           · simp only [Option.some.injEq, Prod.mk.injEq] at he; rw [← he.2]; exact Q.refl _
           · exact aStrBytes_Q he)
        | (unfold aCall at he
           split at he
           · split at he
             · rename_i fn hfn; exact hF _ _ hfn _ _ _ _ he hW
             · cases he
           · cases he))
    | (simp only [Option.map_eq_some_iff] at he
       obtain ⟨u, hu, hb⟩ := he
       simp only [aBox, Prod.mk.injEq] at hb
       rw [← hb.2]; exact Q.new)
end
end
end Go.Ab
