/- Which operations of a drawn region see but some objects. Conditions: none. -/
import Derived.Test.YtcgoamfjpnkiiaaGreatAbZ
set_option linter.all false
namespace Go.Ab
noncomputable section
open Go.RowKit

theorem loc_pureE {Ty : Types} {FT : FunT} {ev : Operand → Option Value} {op : Op} {h : H} {v : Value} {h1 : H} {kd : Nat} {vs : List Value} (hlw : h.lw ≤ h.n) (hd : domOf ev op = some []) (E : Option Value) (hE : ∀ g, aOp Ty FT ev op g = E.map (·, g)) (he : aOp Ty FT ev op h = some (v, h1)) (hk : kd ≠ 3) : Loc1 Ty FT ev op h v h1 kd vs := by
  refine loc_pure hlw hd (fun g => ?_) he hk
  rw [hE h] at he
  rw [hE g]
  cases E with
  | none => cases he
  | some u => cases he; rfl

theorem idOf_sub {p : Value} {ids : List Nat} (h : idOf (some p) = some ids) : ∀ id ∈ ids, id ∈ idsV [p] := by
  intro id hid
  unfold idOf at h
  split at h <;> cases h
  · rename_i heq; cases heq; simpa [idsV] using hid
  · rename_i heq; cases heq; simpa [idsV] using hid
  · rename_i heq; cases heq; simpa [idsV] using hid
  · cases hid

theorem idsV_cons (v : Value) (vs : List Value) : idsV (v :: vs) = idsV [v] ++ idsV vs := by simp [idsV]

theorem aConv_num {Ty : Types} {dst : TypeId} {j : TI} (hj : Ty dst = some j) (hn : isNum j.d = true) {a v : Value} (h : aConv Ty dst a = some v) : idOf (some a) = some [] := by
  unfold aConv at h
  rw [hj] at h
  simp only at h
  cases hd : j.d <;> rw [hd] at h hn <;> simp only [isNum, Bool.false_eq_true] at hn <;> cases a <;> first | rfl | (simp at h; done)

theorem aStr_num {Ty : Types} {src dst : TypeId} {j : TI} (hj : Ty dst = some j) (hn : isNum j.d = true) (a : Value) (g : H) : aStrBytes Ty g src dst a = none := by
  unfold aStrBytes
  obtain ⟨d, s, b, z, f⟩ := j
  split
  all_goals first
    | rfl
    | (rename_i hd _ _; rw [hj] at hd; cases hd; cases hn; done)
    | (rename_i hd _; rw [hj] at hd; cases hd; cases hn; done)
    | (rename_i hd; rw [hj] at hd; cases hd; cases hn; done)

def bPure (Ty : Types) (b : Builtin) (ts : List TypeId) (vs : List Value) : Option Value :=
  match b, ts, vs with
  | .cap, [t], [x] => aCap Ty t x
  | .complex, _, [x, y] => aComplex x y
  | .real, _, [x] => aReal x
  | .imag, _, [x] => aImag x
  | .min, _, [x, y] => aMin2 x y
  | .max, _, [x, y] => aMax2 x y
  | _, _, _ => none

theorem bPure_eq {Ty : Types} {b : Builtin} (hb : b = .cap ∨ b = .complex ∨ b = .real ∨ b = .imag ∨ b = .min ∨ b = .max) (ts : List TypeId) (vs : List Value) (g : H) : aBuiltin Ty b ts vs g = (bPure Ty b ts vs).map (·, g) := by
  rcases hb with rfl | rfl | rfl | rfl | rfl | rfl <;> rcases ts with _ | ⟨t, _ | ⟨t2, ts⟩⟩ <;> rcases vs with _ | ⟨x, _ | ⟨y, _ | ⟨z, vs⟩⟩⟩ <;> rfl

section
variable {Ty : Types} {FT : FunT} {ev evK : Operand → Option Value} {h : H} {v : Value} {h1 : H}

theorem local0 {op : Op} (hk : kindD Ty op = 0) (hlw : h.lw ≤ h.n) {ds : List Value} (he : aOp Ty FT ev op h = some (v, h1)) : Loc1 Ty FT ev op h v h1 0 ds := by
  have n3 : (0 : Nat) ≠ 3 := by decide
  cases op with
  | move x => exact loc_pureE hlw rfl (some ((ev x).getD undefA)) (fun g => rfl) he n3
  | assign x => exact loc_pureE hlw rfl (some ((ev x).getD undefA)) (fun g => rfl) he n3
  | pick c x y =>
    refine loc_pureE hlw rfl (match ev c with | some (.bool t) => some ((ev (cond t x y)).getD undefA) | _ => none) (fun g => ?_) he n3
    simp only [aOp]
    cases ev c with
    | none => rfl
    | some u => cases u <;> rfl
  | build t parts =>
    refine loc_pureE hlw rfl (match aParts ev parts.toList with | some ps => aBuild Ty t ps | none => none) (fun g => ?_) he n3
    simp only [aOp]
    cases aParts ev parts.toList <;> rfl
  | nilCheck x =>
    refine loc_pureE hlw rfl (match ev x with | some a => aNilCheck a | none => none) (fun g => ?_) he n3
    simp only [aOp]
    cases ev x <;> rfl
  | binOp o t x y ty =>
    refine loc_pureE hlw rfl (match ev x, ev y with | some a, some b => aBin Ty o t a b | _, _ => none) (fun g => ?_) he n3
    simp only [aOp]
    cases ev x <;> cases ev y <;> rfl
  | unOp o t x =>
    refine loc_pureE hlw rfl (match ev x with | some a => aUn o a | none => none) (fun g => ?_) he n3
    simp only [aOp]
    cases ev x <;> rfl
  | makeFunc fn first captured =>
    refine loc_pureE hlw rfl (match aMapM ev first.toList, aMapM ev captured.toList with | some us, some vs => some (.func fn us.toArray vs.toArray) | _, _ => none) (fun g => ?_) he n3
    simp only [aOp]
    cases aMapM ev first.toList <;> cases aMapM ev captured.toList <;> rfl
  | slice t x lo hi mx =>
    refine loc_pureE hlw rfl (match ev x, aOpt ev lo, aOpt ev hi, aOpt ev mx with | some a, some l, some u, some m => aSlice Ty t a l u m | _, _, _, _ => none) (fun g => ?_) he n3
    simp only [aOp]
    cases ev x <;> cases aOpt ev lo <;> cases aOpt ev hi <;> cases aOpt ev mx <;> rfl
  | fieldAddr t x f =>
    refine loc_pureE hlw rfl (match ev x with | some a => aFieldAddr Ty t a f | none => none) (fun g => ?_) he n3
    simp only [aOp]
    cases ev x <;> rfl
  | field t x f =>
    refine loc_pureE hlw rfl (match ev x with | some a => aField Ty t a f | none => none) (fun g => ?_) he n3
    simp only [aOp]
    cases ev x <;> rfl
  | indexAddr t x y =>
    refine loc_pureE hlw rfl (match ev x, ev y with | some a, some b => aIndexAddr Ty t a b | _, _ => none) (fun g => ?_) he n3
    simp only [aOp]
    cases ev x <;> cases ev y <;> rfl
  | index t x y =>
    refine loc_pureE hlw rfl (match ev x, ev y with | some a, some b => aIndex Ty t a b | _, _ => none) (fun g => ?_) he n3
    simp only [aOp]
    cases ev x <;> cases ev y <;> rfl
  | extract t i =>
    refine loc_pureE hlw rfl (match ev t with | some a => aExtract a i | none => none) (fun g => ?_) he n3
    simp only [aOp]
    cases ev t <;> rfl
  | convert src dst x =>
    simp only [kindD] at hk
    split at hk
    · rename_i i j hi hj
      cases hn : isNum j.d with
      | false =>
        rw [hn] at hk
        simp only [cond_false] at hk
        split at hk <;> cases hk
      | true =>
        have hE : ∀ g, aOp Ty FT ev (.convert src dst x) g = (match ev x with | some a => aConv Ty dst a | none => none).map (·, g) := fun g => by
          simp only [aOp, hi]
          cases ev x with
          | none => rfl
          | some a =>
            simp only
            cases hc : aConv Ty dst a with
            | some u => rfl
            | none => simp only [aStr_num hj hn]; rfl
        refine loc_pureE hlw ?_ _ hE he n3
        rw [hE h] at he
        simp only [domOf]
        cases hx : ev x with
        | none => rw [hx] at he; cases he
        | some a =>
          rw [hx] at he
          simp only [Option.map_eq_some_iff] at he
          obtain ⟨u, hu, _⟩ := he
          exact aConv_num hj hn hu
    · cases hk
  | makeMap t r => cases r <;> simp [kindD] at hk
  | call c =>
    obtain ⟨callee, args, argTypes⟩ := c
    cases callee with
    | value f => simp [kindD] at hk
    | invoke r n => simp [kindD] at hk
    | builtin b =>
      have hb : b = .cap ∨ b = .complex ∨ b = .real ∨ b = .imag ∨ b = .min ∨ b = .max := by cases b <;> simp [kindD] at hk <;> simp
      have hd : domOf ev (.call ⟨.builtin b, args, argTypes⟩) = some [] := by rcases hb with rfl | rfl | rfl | rfl | rfl | rfl <;> rfl
      refine loc_pureE hlw hd (match aMapM ev args.toList with | some vs => bPure Ty b argTypes.toList vs | none => none) (fun g => ?_) he n3
      simp only [aOp]
      cases aMapM ev args.toList with
      | none => rfl
      | some vs => exact bPure_eq hb _ _ _
  | _ => simp [kindD] at hk

theorem local1 {op : Op} (hk : kindD Ty op = 1) (hlw : h.lw ≤ h.n) {ds : List Value} (he : aOp Ty FT ev op h = some (v, h1)) : Loc1 Ty FT ev op h v h1 1 ds := by
  cases op with
  | alloc e =>
    cases hi : Ty e with
    | none => simp [aOp, aAlloc, hi] at he
    | some i => exact loc_new hlw rfl (.cells i.zero e false) (fun n => .pointer (some ⟨n, 0, none⟩)) (fun g => by simp only [aOp, aAlloc, hi]) he
  | box e x =>
    cases hx : ev x with
    | none => simp [aOp, hx] at he
    | some a => exact loc_new hlw rfl (.cells a.cells.toList e false) (fun n => .pointer (some ⟨n, 0, none⟩)) (fun g => by simp only [aOp, hx, Option.map_some, aBox]) he
  | makeMap t r =>
    cases r with
    | none => exact loc_new hlw rfl (.map [] 0 t) (fun n => .map (some n)) (fun g => by simp only [aOp]) he
    | some _ => simp [kindD] at hk
  | buildSlice t len parts =>
    cases hp : aParts ev parts.toList with
    | none => simp [aOp, hp] at he
    | some ps =>
      have h0 := he
      simp only [aOp, hp] at h0
      unfold aBuildSlice at h0
      split at h0
      · rename_i e s1 b1 z1 f1 hT
        split at h0
        · rename_i ie hie
          split at h0
          · rename_i hc
            split at h0
            · rename_i cs hcs
              exact loc_new hlw rfl (.cells cs e false) (fun n => .slice (some ⟨n, 0, none⟩) len len) (fun g => by simp only [aOp, hp, aBuildSlice, hT, hie, if_pos hc, hcs]) he
            · cases h0
          · cases h0
        · cases h0
      · cases h0
  | makeSlice t l c =>
    have h0 := he
    simp only [aOp] at h0
    split at h0
    · rename_i a b ha hb
      unfold aMakeSlice at h0
      split at h0
      · rename_i e s1 b1 z1 f1 k1 x1 k2 x2 hT
        split at h0
        · rename_i ie hie
          split at h0
          · rename_i hc
            exact loc_new hlw rfl (.cells (rep ie.zero x2.toNat) e false) (fun n => .slice (some ⟨n, 0, none⟩) x1.toNat x2.toNat) (fun g => by simp only [aOp, ha, hb, aMakeSlice, hT, hie, if_pos hc]) he
          · cases h0
        · cases h0
      · cases h0
    · cases h0
  | convert src dst x =>
    simp only [kindD] at hk
    split at hk
    · rename_i i j hi hj
      cases hn : isNum j.d with
      | true => rw [hn] at hk; cases hk
      | false =>
        rw [hn] at hk
        simp only [cond_false] at hk
        split at hk
        · cases hk
        · rename_i e hid hjd
          obtain ⟨d1, s1, b1, z1, f1⟩ := i
          obtain ⟨d2, s2, b2, z2, f2⟩ := j
          simp only at hid hjd
          subst hid
          subst hjd
          cases hx : ev x with
          | none => simp [aOp, hx] at he
          | some a =>
            have hc : aConv Ty dst a = none := by
              unfold aConv
              rw [hj]
            have h0 := he
            simp only [aOp, hx, hi, hc] at h0
            unfold aStrBytes at h0
            rw [hi, hj] at h0
            simp only at h0
            cases a with
            | string s =>
              simp only at h0
              split at h0
              · rename_i b3 z3 f3 hT
                exact loc_new hlw (by simp only [domOf, hx]; rfl) (.cells (s.data.toList.map fun b => .int .u8 b.toNat) e false) (fun n => .slice (some ⟨n, 0, none⟩) s.size (UNK + 1)) (fun g => by
                  simp only [aOp, hx, hi, hc]
                  unfold aStrBytes
                  rw [hi, hj]
                  simp only [hT]) he
              · cases h0
            | _ => simp at h0
        · cases hk
    · cases hk
  | call c =>
    obtain ⟨callee, args, argTypes⟩ := c
    cases callee with
    | value f => simp [kindD] at hk
    | invoke r n => simp [kindD] at hk
    | builtin b => cases b <;> simp [kindD] at hk
  | _ => simp [kindD] at hk

theorem sub_get {ids : List Nat} {id : Nat} (h : H) (hi : id ∈ ids) : (subH h ids).get id = h.get id := by rw [subH_get, if_pos hi]

theorem seg_sub {ids : List Nat} {id : Nat} (h : H) (hi : id ∈ ids) (off n : Nat) : (subH h ids).seg id off n = h.seg id off n := by
  unfold H.seg
  rw [sub_get h hi]

theorem evK_eq {op : Op} (hev : EvLe op.operands.toList evK ev) {x : Operand} (hx : x ∈ op.operands.toList) {p q : Value} (h1 : ev x = some p) (h2 : evK x = some q) : p = q := by
  have := (hev x hx q h2).1
  rw [h1] at this
  cases this; rfl

theorem local2 {op : Op} (hk : kindD Ty op = 2) (hlw : h.lw ≤ h.n) {ds : List Value} (hds : domsK Ty evK op = some ds) (hev : EvLe op.operands.toList evK ev) (hpr : Pres h (idsV ds)) (he : aOp Ty FT ev op h = some (v, h1)) : Loc1 Ty FT ev op h v h1 2 ds := by
  cases op with
  | load t x =>
    cases hx : ev x with
    | none => simp [aOp, hx] at he
    | some p =>
      simp only [domsK] at hds
      obtain ⟨q, hq, hds⟩ := oV_some hds
      cases hds
      cases evK_eq hev (by simp [Op.operands]) hx hq
      simp only [aOp, hx, Option.map_eq_some_iff, Prod.mk.injEq] at he
      obtain ⟨u, hu, rfl, hh⟩ := he
      have h0 := hu
      unfold aLoad at h0
      split at h0
      · rename_i id off
        refine loc_read (ids := [id]) hlw (by simp only [domOf, hx]; rfl) (idOf_sub rfl) hpr hh.symm ?_
        simp only [aOp, hx]
        have : aLoad Ty (subH h [id]) t (.pointer (some ⟨id, off, none⟩)) = some u := by
          rw [← hu]
          simp only [aLoad, sub_get h (List.mem_singleton.2 rfl)]
        rw [this]; rfl
      · cases h0
  | lookup t x y ok =>
    cases hx : ev x with
    | none => simp [aOp, hx] at he
    | some p =>
      cases hy : ev y with
      | none => simp [aOp, hx, hy] at he
      | some p2 =>
        simp only [domsK] at hds
        obtain ⟨q, hq, hds⟩ := oV_some hds
        cases hds
        cases evK_eq hev (by simp [Op.operands]) hx hq
        simp only [aOp, hx, hy, Option.map_eq_some_iff, Prod.mk.injEq] at he
        obtain ⟨u, hu, rfl, hh⟩ := he
        obtain ⟨ids, hids⟩ : ∃ ids, idOf (some p) = some ids := by unfold idOf; split <;> exact ⟨_, rfl⟩
        refine loc_read (ids := ids) hlw (by simp only [domOf, hx]; exact hids) (idOf_sub hids) hpr hh.symm ?_
        simp only [aOp, hx, hy]
        have : aLookup Ty (subH h ids) t p p2 ok = some u := by
          rw [← hu]
          unfold aLookup
          cases p with
          | map m => cases m with
            | none => rfl
            | some id =>
              simp only [idOf, Option.some.injEq] at hids
              subst hids
              simp only [sub_get h (List.mem_singleton.2 rfl)]
          | _ => rfl
        rw [this]; rfl
  | convert src dst x =>
    simp only [kindD] at hk
    split at hk
    · rename_i i j hi hj
      cases hn : isNum j.d with
      | true => rw [hn] at hk; cases hk
      | false =>
        rw [hn] at hk
        simp only [cond_false] at hk
        split at hk
        · rename_i e hid
          cases hx : ev x with
          | none => simp [aOp, hx] at he
          | some p =>
            have hds0 : ∃ q, evK x = some q ∧ ds = [q] := by
              simp only [domsK, hi, hid, oV] at hds
              cases hq : evK x with
              | none => simp [hq] at hds
              | some q =>
                rw [hq] at hds
                simp only [Option.some.injEq] at hds
                exact ⟨q, rfl, hds.symm⟩
            clear hds
            obtain ⟨q, hq, rfl⟩ := hds0
            cases evK_eq hev (by simp [Op.operands]) hx hq
            obtain ⟨ids, hids⟩ : ∃ ids, idOf (some p) = some ids := by unfold idOf; split <;> exact ⟨_, rfl⟩
            have hd : domOf ev (.convert src dst x) = some ids := by simp only [domOf, hx]; exact hids
            simp only [aOp, hx, hi] at he
            cases hc : aConv Ty dst p with
            | some u =>
              rw [hc] at he
              cases he
              exact loc_read hlw hd (idOf_sub hids) hpr rfl (by simp only [aOp, hx, hi, hc])
            | none =>
              rw [hc] at he
              simp only at he
              obtain ⟨d1, s1, b1, z1, f1⟩ := i
              simp only at hid
              subst hid
              have key : h1 = h ∧ aStrBytes Ty (subH h ids) src dst p = some (v, subH h ids) := by
                unfold aStrBytes at he
                split at he
                · rename_i hs hd2
                  split at he
                  · rename_i hT
                    cases he
                    refine ⟨rfl, ?_⟩
                    unfold aStrBytes
                    rw [hs, hd2]
                    simp only [hT]
                  · cases he
                · rename_i hs hd2
                  simp only [idOf, Option.some.injEq] at hids
                  subst hids
                  split at he
                  · rename_i hT
                    rcases condQ he with ⟨hb, he2⟩ | ⟨hb, he2⟩
                    · cases he2
                      refine ⟨rfl, ?_⟩
                      unfold aStrBytes
                      rw [hs, hd2]
                      simp only [hT, hb, cond_true]
                    · split at he2
                      · rename_i cs hcs
                        split at he2
                        · rename_i l hl
                          cases he2
                          refine ⟨rfl, ?_⟩
                          unfold aStrBytes
                          rw [hs, hd2]
                          simp only [hT, hb, cond_false, seg_sub h (List.mem_singleton.2 rfl), hcs, hl]
                        · cases he2
                      · cases he2
                  · cases he
                · rename_i hs hd2
                  rw [hi] at hs
                  cases hs
                · rename_i hs hd2
                  simp only [idOf, Option.some.injEq] at hids
                  subst hids
                  split at he
                  · rename_i hT hg
                    rcases condQ he with ⟨hb, he2⟩ | ⟨_, he2⟩
                    · cases he2
                      refine ⟨rfl, ?_⟩
                      unfold aStrBytes
                      rw [hs, hd2]
                      simp only [hT, sub_get h (List.mem_singleton.2 rfl), hg, hb, cond_true]
                    · cases he2
                  · cases he
                · cases he
              exact loc_read hlw hd (idOf_sub hids) hpr key.1 (by simp only [aOp, hx, hi, hc]; exact key.2)
        · cases hk
        · cases hk
    · cases hk
  | makeMap t r => cases r <;> simp [kindD] at hk
  | call c =>
    obtain ⟨callee, args, argTypes⟩ := c
    cases callee with
    | value f => simp [kindD] at hk
    | invoke r n => simp [kindD] at hk
    | builtin b =>
      have hb : b = .len := by cases b <;> simp [kindD] at hk <;> rfl
      subst hb
      simp only [domsK] at hds
      split at hds
      · rename_i t x hts has
        obtain ⟨i, hi, hds2⟩ := oV_some hds
        clear hds
        have hmem : x ∈ (Op.call ⟨.builtin .len, args, argTypes⟩).operands.toList := by simp [Op.operands, Call.operands, has]
        have ha0 : args[0]? = some x := by rw [← Array.getElem?_toList, has]; rfl
        simp only [aOp, has] at he
        cases hx : ev x with
        | none => simp [aMapM, hx] at he
        | some p =>
          simp only [aMapM, hx, hts, aBuiltin, Option.map_eq_some_iff, Prod.mk.injEq] at he
          obtain ⟨u, hu, rfl, hh⟩ := he
          have hopS : ∀ g, aLen Ty g t p = some u → aOp Ty FT ev (.call ⟨.builtin .len, args, argTypes⟩) g = some (u, g) := fun g hg => by
            simp only [aOp, has, aMapM, hx, hts, aBuiltin, hg, Option.map_some]
          have hu0 := hu
          unfold aLen at hu0
          simp only [hi] at hu0
          cases hdd : i.d with
          | map k0 e0 =>
            simp only [hdd] at hds2 hu0
            obtain ⟨q, hq, hds3⟩ := oV_some hds2
            cases hds3
            cases evK_eq hev hmem hx hq
            obtain ⟨ids, hids⟩ : ∃ ids, idOf (some p) = some ids := by unfold idOf; split <;> exact ⟨_, rfl⟩
            cases p with
            | map m =>
              cases m with
              | none =>
                refine loc_read (ids := []) hlw (by simp only [domOf, ha0, Option.bind_some, hx]) (fun _ hk => by cases hk) hpr hh.symm (hopS _ ?_)
                rw [← hu]
                unfold aLen
                simp only [hi, hdd]
              | some id =>
                refine loc_read (ids := [id]) hlw (by simp only [domOf, ha0, Option.bind_some, hx]) (idOf_sub rfl) hpr hh.symm (hopS _ ?_)
                rw [← hu]
                unfold aLen
                simp only [hi, hdd, sub_get h (List.mem_singleton.2 rfl)]
            | _ => simp at hu0
          | slice e0 =>
            simp only [hdd] at hu0
            cases p with
            | slice b n c =>
              refine loc_read (ids := []) hlw (by simp only [domOf, ha0, Option.bind_some, hx]) (fun _ hk => by cases hk) hpr hh.symm (hopS _ ?_)
              rw [← hu]
              unfold aLen
              simp only [hi, hdd]
            | _ => simp at hu0
          | string =>
            simp only [hdd] at hu0
            cases p with
            | string b =>
              refine loc_read (ids := []) hlw (by simp only [domOf, ha0, Option.bind_some, hx]) (fun _ hk => by cases hk) hpr hh.symm (hopS _ ?_)
              rw [← hu]
              unfold aLen
              simp only [hi, hdd]
            | _ => simp at hu0
          | _ => simp [hdd] at hds2
      · cases hds
  | _ => simp [kindD] at hk

theorem write_sub {ids : List Nat} {id off : Nat} {us : List Value} {g : H} (hi : id ∈ ids) (hw : h.write id off us = some g) : ∃ o, g = h.set id o ∧ (subH h ids).write id off us = some ((subH h ids).set id o) := by
  unfold H.write at hw
  split at hw
  · rename_i cs tag hg
    rcases condQ hw with ⟨hb, hw⟩ | ⟨_, hw⟩
    · cases hw
      refine ⟨_, rfl, ?_⟩
      unfold H.write
      rw [sub_get h hi, hg]
      simp only [hb, cond_true]
    · cases hw
  · cases hw

theorem idOf_some (p : Value) : ∃ ids, idOf (some p) = some ids := by unfold idOf; split <;> exact ⟨_, rfl⟩

theorem srcOf_sub {ids : List Nat} {ie : TI} {z : Bool} {x : Value} {r : Nat × List Value} (hi : ∀ l, idOf (some x) = some l → ∀ id ∈ l, id ∈ ids) (hs : srcOf h ie z x = some r) : srcOf (subH h ids) ie z x = some r := by
  unfold srcOf at hs ⊢
  split at hs
  · exact hs
  · exact hs
  · rename_i id off len c
    have hm := hi [id] rfl id (List.mem_singleton.2 rfl)
    simp only [seg_sub h hm]
    exact hs
  · exact hs
  · cases hs

theorem grow_new {e : TypeId} {ie : TI} {need : Nat} {cs : List Value} {u : Value} {g g1 : H} (hg : aGrow g e ie need cs = some (u, g1)) : ∃ o, g1 = g.new o ∧ ∀ g2 : H, g2.n = g.n → aGrow g2 e ie need cs = some (u, g2.new o) := by
  unfold aGrow at hg
  split at hg
  · rename_i hc
    cases hg
    refine ⟨_, rfl, fun g2 hn => ?_⟩
    unfold aGrow
    rw [if_pos hc, hn]
  · cases hg

/-- What an append does: nothing, a write, a new row, a row in another one's place. -/
theorem append_loc {t0 t1 : TypeId} {s x u : Value} {g1 : H} {ids : List Nat} (hs : ∀ l, idOf (some s) = some l → ∀ id ∈ l, id ∈ ids) (hx : ∀ l, idOf (some x) = some l → ∀ id ∈ l, id ∈ ids) (he : aAppend Ty h t0 t1 s x = some (u, g1)) :
    (g1 = h ∧ aAppend Ty (subH h ids) t0 t1 s x = some (u, subH h ids)) ∨ (∃ id o, id ∈ ids ∧ g1 = h.set id o ∧ aAppend Ty (subH h ids) t0 t1 s x = some (u, (subH h ids).set id o)) ∨
    (∃ o, g1 = h.new o ∧ aAppend Ty (subH h ids) t0 t1 s x = some (u, (subH h ids).new o)) ∨ (∃ id o, id ∈ ids ∧ g1 = (h.del id).new o ∧ aAppend Ty (subH h ids) t0 t1 s x = some (u, ((subH h ids).del id).new o)) := by
  unfold aAppend at he ⊢
  split at he
  · rename_i e sz bt z fl i1 h0 hT1
    try rw [h0, hT1]
    try simp only
    cases hTe : Ty e with
    | none => rw [hTe] at he; cases he
    | some ie =>
      rw [hTe] at he
      simp only at he ⊢
      rcases condQ he with ⟨_, he2⟩ | ⟨hz, he2⟩
      · cases he2
      · clear he
        rw [hz]
        simp only [cond_false]
        cases hsrc : srcOf h ie (isIntD i1.d) x with
        | none => rw [hsrc] at he2; cases he2
        | some p =>
          obtain ⟨n, vs⟩ := p
          rw [hsrc] at he2
          rw [srcOf_sub hx hsrc]
          simp only at he2 ⊢
          split at he2
          · rename_i l c
            split at he2
            · rename_i hlc
              rw [if_pos hlc]
              rcases condQ he2 with ⟨hb, he3⟩ | ⟨hb, he3⟩
              · cases he3
                rw [hb]
                exact .inl ⟨rfl, rfl⟩
              · rw [hb]
                obtain ⟨o, a, b⟩ := grow_new he3
                exact .inr (.inr (.inl ⟨o, a, b _ (subH_n ..)⟩))
            · cases he2
          · rename_i id off len cap
            have hm := hs [id] rfl id (List.mem_singleton.2 rfl)
            rcases condQ he2 with ⟨hb1, he3⟩ | ⟨hb1, he3⟩
            · rw [hb1]
              rcases condQ he3 with ⟨hb2, he4⟩ | ⟨hb2, he4⟩
              · rw [hb2]
                rcases condQ he4 with ⟨hb3, he5⟩ | ⟨hb3, he5⟩
                · cases he5
                  rw [hb3]
                  exact .inl ⟨rfl, rfl⟩
                · rw [hb3]
                  split at he5
                  · rename_i g2 hw
                    cases he5
                    obtain ⟨o, a, b⟩ := write_sub hm hw
                    exact .inr (.inl ⟨id, o, hm, a, by simp only [cond_true, cond_false, b]⟩)
                  · cases he5
              · rw [hb2]
                rcases condQ he4 with ⟨hb3, he5⟩ | ⟨_, he5⟩
                · rw [hb3]
                  split at he5
                  · rename_i old hold
                    obtain ⟨o, a, b⟩ := grow_new he5
                    exact .inr (.inr (.inl ⟨o, a, by simp only [cond_true, cond_false, seg_sub h hm, hold]; exact b _ (subH_n ..)⟩))
                  · cases he5
                · cases he5
            · rw [hb1]
              rcases condQ he3 with ⟨hb2, he4⟩ | ⟨_, he4⟩
              · rw [hb2]
                rcases condQ he4 with ⟨hb3, he5⟩ | ⟨hb3, he5⟩
                · cases he5
                  rw [hb3]
                  exact .inl ⟨rfl, rfl⟩
                · rw [hb3]
                  simp only [cond_true, cond_false, sub_get h hm]
                  split at he5
                  · rename_i cs tag hg
                    try rw [hg]
                    try simp only
                    rcases condQ he5 with ⟨hb4, he6⟩ | ⟨hb4, he6⟩
                    · rw [hb4]
                      split at he6
                      · rename_i g2 hw
                        cases he6
                        obtain ⟨o, a, b⟩ := write_sub hm hw
                        exact .inr (.inl ⟨id, o, hm, a, by simp only [cond_true, b]⟩)
                      · cases he6
                    · rw [hb4]
                      rcases condQ he6 with ⟨hb5, he7⟩ | ⟨_, he7⟩
                      · rw [hb5]
                        obtain ⟨o, a, b⟩ := grow_new he7
                        exact .inr (.inr (.inr ⟨id, o, hm, a, by simp only [cond_true, cond_false]; exact b _ (by rw [H.n_del, subH_n, H.n_del])⟩))
                      · cases he7
                  · cases he5
              · cases he4
          · cases he2
  · cases he

theorem first_sub {ids : List Nat} {sz n : Nat} {x : Value} {r : List Value} (hi : ∀ l, idOf (some x) = some l → ∀ id ∈ l, id ∈ ids) (hs : firstA h sz n x = some r) : firstA (subH h ids) sz n x = some r := by
  unfold firstA at hs ⊢
  split at hs
  · rename_i id off a b
    simp only [seg_sub h (hi [id] rfl id (List.mem_singleton.2 rfl))]
    exact hs
  · exact hs
  · cases hs

theorem copy_loc {t0 : TypeId} {d s u : Value} {g1 : H} {ids : List Nat} (hd : ∀ l, idOf (some d) = some l → ∀ id ∈ l, id ∈ ids) (hs : ∀ l, idOf (some s) = some l → ∀ id ∈ l, id ∈ ids) (he : aCopy Ty h t0 d s = some (u, g1)) :
    (g1 = h ∧ aCopy Ty (subH h ids) t0 d s = some (u, subH h ids)) ∨ (∃ id o, id ∈ ids ∧ g1 = h.set id o ∧ aCopy Ty (subH h ids) t0 d s = some (u, (subH h ids).set id o)) := by
  unfold aCopy at he ⊢
  split at he
  · rename_i e sz bt z fl base dLen c sLen hT hl
    try rw [hT, hl]
    try simp only
    cases hTe : Ty e with
    | none => rw [hTe] at he; cases he
    | some ie =>
      rw [hTe] at he
      simp only at he ⊢
      rcases condQ he with ⟨hb, he2⟩ | ⟨hb, he2⟩
      · cases he2
        rw [hb]
        exact .inl ⟨rfl, rfl⟩
      · clear he
        rw [hb]
        simp only [cond_false]
        split at he2
        · rename_i id off vs hf
          rw [first_sub hs hf]
          simp only
          split at he2
          · rename_i g2 hw
            cases he2
            obtain ⟨o, a, b⟩ := write_sub (hd [id] rfl id (List.mem_singleton.2 rfl)) hw
            exact .inr ⟨id, o, hd [id] rfl id (List.mem_singleton.2 rfl), a, by simp only [b]⟩
          · cases he2
        · cases he2
  · cases he

theorem local3 {op : Op} (hk : kindD Ty op = 3) (hlw : h.lw ≤ h.n) {ds : List Value} (hds : domsK Ty evK op = some ds) (hev : EvLe op.operands.toList evK ev) (hpr : Pres h (idsV ds)) (he : aOp Ty FT ev op h = some (v, h1)) : Loc1 Ty FT ev op h v h1 3 ds := by
  cases op with
  | store t x y =>
    simp only [aOp] at he
    split at he
    · rename_i p q hx hy
      simp only [domsK] at hds
      obtain ⟨p', hp', hds⟩ := oV_some hds
      cases hds
      cases evK_eq hev (by simp [Op.operands]) hx hp'
      simp only [Option.map_eq_some_iff, Prod.mk.injEq] at he
      obtain ⟨g, hg, rfl, rfl⟩ := he
      have h0 := hg
      unfold aStore at h0
      split at h0
      · rename_i id off i hi
        rcases condQ h0 with ⟨hb, h0⟩ | ⟨_, h0⟩
        · obtain ⟨o, rfl, hw⟩ := write_sub (ids := [id]) (List.mem_singleton.2 rfl) h0
          refine loc_set (ids := [id]) hlw (by simp only [domOf, hx]; rfl) (idOf_sub rfl) hpr (List.mem_singleton.2 rfl) ?_
          simp only [aOp, hx, hy, aStore, hi, hb, cond_true, hw, Option.map_some]
        · cases h0
      · cases h0
    · cases he
  | mapUpdate t x y z =>
    simp only [aOp] at he
    split at he
    · rename_i p q r hx hy hz
      simp only [domsK] at hds
      obtain ⟨p', hp', hds⟩ := oV_some hds
      cases hds
      cases evK_eq hev (by simp [Op.operands]) hx hp'
      simp only [Option.map_eq_some_iff, Prod.mk.injEq] at he
      obtain ⟨g, hg, rfl, rfl⟩ := he
      have h0 := hg
      unfold aMapUpdate at h0
      split at h0
      · rename_i kt et sz bt zr fl id hT
        have key : ∃ o, g = h.set id o ∧ aMapUpdate Ty (subH h [id]) t (.map (some id)) q r = some ((subH h [id]).set id o) := by
          unfold aMapUpdate
          rw [hT]
          simp only [sub_get h (List.mem_singleton.2 rfl)]
          split at h0
          · rename_i es cl tg hgm
            try rw [hgm]
            try simp only
            rcases condQ h0 with ⟨hb, h1⟩ | ⟨_, h1⟩
            · rw [hb]
              simp only [cond_true]
              split at h1
              · rename_i i w hf
                try rw [hf]
                try simp only
                split at h1
                · rename_i en hen
                  try rw [hen]
                  try simp only
                  rcases condQ h1 with ⟨hb2, h2⟩ | ⟨_, h2⟩
                  · rw [hb2]; cases h2; exact ⟨_, rfl, rfl⟩
                  · cases h2
                · cases h1
              · rename_i hf
                try rw [hf]
                cases h1
                exact ⟨_, rfl, rfl⟩
              · cases h1
            · cases h1
          · cases h0
        obtain ⟨o, rfl, hw⟩ := key
        refine loc_set (ids := [id]) hlw (by simp only [domOf, hx]; rfl) (idOf_sub rfl) hpr (List.mem_singleton.2 rfl) ?_
        simp only [aOp, hx, hy, hz, hw, Option.map_some]
      · cases h0
    · cases he
  | mapEntry t x y =>
    simp only [aOp] at he
    split at he
    · rename_i p q hx hy
      simp only [domsK] at hds
      obtain ⟨p', hp', hds⟩ := oV_some hds
      cases hds
      cases evK_eq hev (by simp [Op.operands]) hx hp'
      have h0 := he
      unfold aMapEntry at h0
      split at h0
      · rename_i kt et sz bt zr fl id hT
        have key : ∃ o, h1 = h.set id o ∧ aMapEntry Ty (subH h [id]) t (.map (some id)) q = some (v, (subH h [id]).set id o) := by
          unfold aMapEntry
          rw [hT]
          simp only [sub_get h (List.mem_singleton.2 rfl)]
          split at h0
          · rename_i es cl tg ie hgm hTe
            try rw [hgm, hTe]
            try simp only
            rcases condQ h0 with ⟨hb, h1⟩ | ⟨_, h1⟩
            · rw [hb]
              simp only [cond_true]
              split at h1
              · rename_i i w hf
                try rw [hf]
                try simp only
                split at h1
                · rename_i en hen
                  try rw [hen]
                  try simp only
                  rcases condQ h1 with ⟨hb2, h2⟩ | ⟨_, h2⟩
                  · rw [hb2]; cases h2; exact ⟨_, rfl, rfl⟩
                  · cases h2
                · cases h1
              · rename_i hf
                try rw [hf]
                cases h1
                exact ⟨_, rfl, rfl⟩
              · cases h1
            · cases h1
          · cases h0
        obtain ⟨o, rfl, hw⟩ := key
        refine loc_set (ids := [id]) hlw (by simp only [domOf, hx]; rfl) (idOf_sub rfl) hpr (List.mem_singleton.2 rfl) ?_
        simp only [aOp, hx, hy, hw]
      · cases h0
    · cases he
  | entryStore t x y z =>
    simp only [aOp] at he
    split at he
    · rename_i p q r hx hy hz
      simp only [domsK] at hds
      obtain ⟨p', hp', hds⟩ := oV_some hds
      cases hds
      cases evK_eq hev (by simp [Op.operands]) hx hp'
      simp only [Option.map_eq_some_iff, Prod.mk.injEq] at he
      obtain ⟨g, hg, rfl, rfl⟩ := he
      have h0 := hg
      unfold aEntryStore at h0
      split at h0
      · rename_i id kk b
        have key : ∃ o, g = h.set id o ∧ aEntryStore (subH h [id]) (.map (some id)) (.int kk b) r = some ((subH h [id]).set id o) := by
          unfold aEntryStore
          simp only [sub_get h (List.mem_singleton.2 rfl)]
          split at h0
          · rename_i es cl tg hgm
            try rw [hgm]
            try simp only
            split at h0
            · rename_i i hf
              try rw [hf]
              try simp only
              split at h0
              · rename_i en hen
                try rw [hen]
                cases h0
                exact ⟨_, rfl, rfl⟩
              · cases h0
            · cases h0
          · cases h0
        obtain ⟨o, rfl, hw⟩ := key
        refine loc_set (ids := [id]) hlw (by simp only [domOf, hx]; rfl) (idOf_sub rfl) hpr (List.mem_singleton.2 rfl) ?_
        simp only [aOp, hx, hy, hz, hw, Option.map_some]
      · cases h0
    · cases he
  | convert src dst x =>
    simp only [kindD] at hk
    split at hk
    · rename_i i j hi hj
      cases hn : isNum j.d with
      | true => rw [hn] at hk; cases hk
      | false =>
        rw [hn] at hk
        simp only [cond_false] at hk
        split at hk <;> cases hk
    · cases hk
  | makeMap t r => cases r <;> simp [kindD] at hk
  | call c =>
    obtain ⟨callee, args, argTypes⟩ := c
    cases callee with
    | value f => simp [kindD] at hk
    | invoke r n => simp [kindD] at hk
    | builtin b =>
      have hb : b = .append ∨ b = .copy := by cases b <;> simp [kindD] at hk <;> simp
      have hdx : ∃ x y p q, args.toList = [x, y] ∧ evK x = some p ∧ evK y = some q ∧ ds = [p, q] := by
        rcases hb with rfl | rfl
        all_goals
          simp only [domsK] at hds
          split at hds
          · rename_i x y hxy
            obtain ⟨p, hp, hds2⟩ := oV_some hds
            obtain ⟨q, hq, hds3⟩ := oV_some hds2
            cases hds3
            exact ⟨x, y, p, q, hxy, hp, hq, rfl⟩
          · cases hds
      obtain ⟨x, y, p, q, hxy, hp, hq, rfl⟩ := hdx
      have hx : ev x = some p := (hev x (by simp [Op.operands, Call.operands, hxy]) p hp).1
      have hy : ev y = some q := (hev y (by simp [Op.operands, Call.operands, hxy]) q hq).1
      have ha0 : args[0]? = some x := by rw [← Array.getElem?_toList, hxy]; rfl
      have ha1 : args[1]? = some y := by rw [← Array.getElem?_toList, hxy]; rfl
      obtain ⟨l1, hl1⟩ := idOf_some p
      obtain ⟨l2, hl2⟩ := idOf_some q
      have hsub : ∀ id ∈ l1 ++ l2, id ∈ idsV [p, q] := by
        intro id hid
        rw [idsV_cons]
        rcases List.mem_append.1 hid with h | h
        · exact List.mem_append_left _ (idOf_sub hl1 id h)
        · exact List.mem_append_right _ (idOf_sub hl2 id h)
      have hs1 : ∀ l, idOf (some p) = some l → ∀ id ∈ l, id ∈ l1 ++ l2 := fun l hl id hid => by
        rw [hl1] at hl; cases hl; exact List.mem_append_left _ hid
      have hs2 : ∀ l, idOf (some q) = some l → ∀ id ∈ l, id ∈ l1 ++ l2 := fun l hl id hid => by
        rw [hl2] at hl; cases hl; exact List.mem_append_right _ hid
      have hm : aMapM ev args.toList = some [p, q] := by rw [hxy]; simp only [aMapM, hx, hy]
      rcases hb with rfl | rfl
      · have hd : domOf ev (.call ⟨.builtin .append, args, argTypes⟩) = some (l1 ++ l2) := by simp only [domOf, ha0, ha1, Option.bind_some, hx, hy, hl1, hl2, idOf2]
        simp only [aOp, hm] at he
        rcases hT : argTypes.toList with _ | ⟨t0, _ | ⟨t1, _ | ⟨t2, ts⟩⟩⟩ <;> rw [hT] at he <;> try (cases he; done)
        change aAppend Ty h t0 t1 p q = some (v, h1) at he
        have hop : ∀ g u g', aAppend Ty g t0 t1 p q = some (u, g') → aOp Ty FT ev (.call ⟨.builtin .append, args, argTypes⟩) g = some (u, g') := fun g u g' hg => by
          simp only [aOp, hm, hT]; exact hg
        rcases append_loc hs1 hs2 he with ⟨rfl, a⟩ | ⟨id, o, hid, rfl, a⟩ | ⟨o, rfl, a⟩ | ⟨id, o, hid, rfl, a⟩
        · exact loc_keep hlw hd hsub hpr (hop _ _ _ a)
        · exact loc_set hlw hd hsub hpr hid (hop _ _ _ a)
        · exact loc_grow hlw hd hsub hpr (hop _ _ _ a)
        · exact loc_move hlw hd hsub hpr hid (hop _ _ _ a)
      · have hd : domOf ev (.call ⟨.builtin .copy, args, argTypes⟩) = some (l1 ++ l2) := by simp only [domOf, ha0, ha1, Option.bind_some, hx, hy, hl1, hl2, idOf2]
        simp only [aOp, hm] at he
        rcases hT : argTypes.toList with _ | ⟨t0, _ | ⟨t1, _ | ⟨t2, ts⟩⟩⟩ <;> rw [hT] at he <;> try (cases he; done)
        by_cases hns : ∃ b, q = .string b
        · obtain ⟨b, rfl⟩ := hns; cases he
        · have hq2 : ∀ g, aBuiltin Ty .copy [t0, t1] [p, q] g = aCopy Ty g t0 p q := fun g => by
            cases q <;> first | rfl | exact absurd ⟨_, rfl⟩ hns
          rw [hq2] at he
          have hop : ∀ g u g', aCopy Ty g t0 p q = some (u, g') → aOp Ty FT ev (.call ⟨.builtin .copy, args, argTypes⟩) g = some (u, g') := fun g u g' hg => by
            simp only [aOp, hm, hT, hq2]; exact hg
          rcases copy_loc hs1 hs2 he with ⟨rfl, a⟩ | ⟨id, o, hid, rfl, a⟩
          · exact loc_keep hlw hd hsub hpr (hop _ _ _ a)
          · exact loc_set hlw hd hsub hpr hid (hop _ _ _ a)
  | _ => simp [kindD] at hk
end
end
end Go.Ab
