/- copy, clear, maps, ranges over strings, over an abstract heap. Conditions: none. -/
import Derived.Test.YtcgoamfjpnkiiaaGreatAbI
set_option linter.all false
namespace Go.Ab
noncomputable section
open Go.RowKit

def aClear (Ty : Types) (h : H) (t : TypeId) (x : Value) : Option H :=
  match Ty t, x with
  | some { d := .map _ _, .. }, .map (some id) => match h.get id with
    | some (.map _ cl tg) => some (h.set id (.map [] cl tg))
    | _ => none
  | some { d := .map _ _, .. }, .map none => some h
  | some { d := .slice e, .. }, .slice base len _ => cond (Nat.beq len 0) (some h) (match base, Ty e with
    | some ⟨id, off, none⟩, some ie => h.write id off (rep ie.zero len)
    | none, _ => some h
    | _, _ => none)
  | _, _ => none

def aFind (Ty : Types) (kt : TypeId) (k : Value) : List MapEntry → Nat → Option (Option (Nat × Value))
  | [], _ => some none
  | e :: es, i => match aEq Ty 10 kt k e.key with
    | some true => some (some (i, e.val))
    | some false => aFind Ty kt k es (i + 1)
    | none => none

def aChkFs (chk : TypeId → Value → Bool) (Ty : Types) (cs : List Value) : List (Nat × TypeId) → Bool
  | [] => true
  | (off, t) :: fs => match aPart Ty t cs off with
    | some v => chk t v && aChkFs chk Ty cs fs
    | none => false

def aChk (Ty : Types) : Nat → TypeId → Value → Bool
  | 0, _, _ => false
  | d + 1, t, v => match Ty t with
    | none => false
    | some i => match i.d with
      | .struct fs => match v with
        | .agg cs => i.flat && aChkFs (aChk Ty d) Ty cs.toList fs
        | _ => false
      | .array _ _ => false
      | _ => true

def zeroV (i : TI) : Value :=
  match i.zero with
  | [z] => cond i.d.agg (.agg #[z]) z
  | zs => .agg zs.toArray

def aLookup (Ty : Types) (h : H) (t : TypeId) (m k : Value) (ok : Bool) : Option Value :=
  match Ty t with
  | some { d := .map kt et, .. } => match Ty et, (match m with
      | .map none => some []
      | .map (some id) => match h.get id with
        | some (.map es _ _) => some es
        | _ => none
      | _ => none) with
    | some ie, some es => cond (aChk Ty 10 kt k && (ie.d.agg || Nat.beq ie.zero.length 1)) (match aFind Ty kt k es 0 with
      | some (some (_, v)) => some (cond ok (.tuple #[v, .bool true]) v)
      | some none => some (cond ok (.tuple #[zeroV ie, .bool false]) (zeroV ie))
      | none => none) none
    | _, _ => none
  | _ => none

def sameKey (old new : Value) : Bool := closedB old && closedB new && Instr.sameBits 10000 old new

def aMapUpdate (Ty : Types) (h : H) (t : TypeId) (m k v : Value) : Option H :=
  match Ty t, m with
  | some { d := .map kt _, .. }, .map (some id) => match h.get id with
    | some (.map es cl tg) => cond (aChk Ty 10 kt k) (match aFind Ty kt k es 0 with
      | some (some (i, _)) => match es[i]? with
        | some e => cond (sameKey e.key k) (some (h.set id (.map (es.set i { e with key := k, val := v }) cl tg))) none
        | none => none
      | some none => some (h.set id (.map (es ++ [{ key := k, val := v, born := cl }]) (cl + 1) tg))
      | none => none) none
    | _ => none
  | _, _ => none

def aMapEntry (Ty : Types) (h : H) (t : TypeId) (m k : Value) : Option (Value × H) :=
  match Ty t, m with
  | some { d := .map kt et, .. }, .map (some id) => match h.get id, Ty et with
    | some (.map es cl tg), some ie => cond (aChk Ty 10 kt k && (ie.d.agg || Nat.beq ie.zero.length 1)) (match aFind Ty kt k es 0 with
      | some (some (i, v)) => match es[i]? with
        | some e => cond (sameKey e.key k) (some (.tuple #[v, .int .i64 e.born], h.set id (.map (es.set i { e with key := k }) cl tg))) none
        | none => none
      | some none => some (.tuple #[zeroV ie, .int .i64 cl], h.set id (.map (es ++ [{ key := k, val := zeroV ie, born := cl }]) (cl + 1) tg))
      | none => none) none
    | _, _ => none
  | _, _ => none

def bornAt (b : Int) : List MapEntry → Nat → Option Nat
  | [], _ => none
  | e :: es, i => if (e.born : Int) = b then some i else bornAt b es (i + 1)

def aEntryStore (h : H) (m stamp v : Value) : Option H :=
  match m, stamp with
  | .map (some id), .int _ b => match h.get id with
    | some (.map es cl tg) => match bornAt b es 0 with
      | some i => match es[i]? with
        | some e => some (h.set id (.map (es.set i { e with val := v }) cl tg))
        | none => none
      | none => none
    | _ => none
  | _, _ => none

def aRangeStr (Ty : Types) (h : H) (t : TypeId) (x : Value) : Option (Value × H) :=
  match Ty t, x with
  | some { d := .string, .. }, .string s => some (.pointer (some ⟨h.n, 0, none⟩), h.new (.iter s 0))
  | some { d := .map _ _, .. }, .map none => some (.pointer (some ⟨h.n, 0, none⟩), h.new (.miter none 0 [] 0))
  | some { d := .map _ _, .. }, .map (some id) => match h.get id with
    | some (.map _ clock _) => some (.pointer (some ⟨h.n, 0, none⟩), h.new (.miter (some id) clock [] clock))
    | _ => none
  | _, _ => none

/-- What a loop over a map may still meet: one at most. -/
def leftOf (since : Nat) (seen : List Nat) (last : Nat) (es : List MapEntry) : Option (Option MapEntry) :=
  cond (!seen.isEmpty && !es.isEmpty && es.all (fun e => Nat.ble last e.born)) none
    (match es.filter (fun e => !seen.any (fun b => Nat.beq b e.born)) with
    | [] => some none
    | [e] => cond (Nat.blt e.born since) (some (some e)) none
    | _ => none)

def aNextMap (h : H) (x : Value) : Option (Value × H) :=
  match x with
  | .pointer (some ⟨id, 0, none⟩) => match h.get id with
    | some (.miter none _ _ _) => some (.tuple #[.bool false], h)
    | some (.miter (some m) since seen last) => match h.get m with
      | some (.map es clock _) => match leftOf since seen last es with
        | some none => some (.tuple #[.bool false], h)
        | some (some e) => some (.tuple #[.bool true, e.key, e.val], h.set id (.miter (some m) since (seen ++ [e.born]) clock))
        | none => none
      | _ => none
    | _ => none
  | _ => none

/-- The entry that an iterator over a map came to last. -/
def aEntry (h : H) (x : Value) : Option Value :=
  match x with
  | .pointer (some ⟨id, 0, none⟩) => match h.get id with
    | some (.miter (some m) _ seen last) => match seen.getLast? with
      | none => none
      | some stamp => match h.get m with
        | some (.map es clock _) => cond (Nat.beq clock last) (match es.find? (fun e => Nat.beq e.born stamp) with
          | some e => some (.tuple #[e.key, e.val])
          | none => none) none
        | _ => none
    | _ => none
  | _ => none

def aNextStr (h : H) (x : Value) : Option (Value × H) :=
  match x with
  | .pointer (some ⟨id, 0, none⟩) => match h.get id with
    | some (.iter s pos) => cond (Nat.blt pos s.size)
        (some (.tuple #[.bool true, .int .i64 pos, .int .i32 (Utf8.decode s pos).1], h.set id (.iter s (pos + (Utf8.decode s pos).2))))
        (some (.tuple #[.bool false], h))
    | _ => none
  | _ => none

section
variable {P : Program} {Ty : Types} {h : H} {R : Ren} {w : World}

theorem lenOfA_sound {x x' : Value} {n : Nat} (he : lenOfA x = some n) (hx : VR R x x') : (Builtin.lenOf x').run P w = .ok n w := by
  cases hx <;> simp only [lenOfA, reduceCtorEq, Option.some.injEq] at he <;> subst he <;> simp [Builtin.lenOf]

theorem firstA_sound (hr : Rel h R w) {size n : Nat} {x x' : Value} {vs : List Value} (hn : n * size ≠ 0) (hlen : lenOfA x = some n ∨ ∃ m, lenOfA x = some m ∧ n ≤ m) (he : firstA h size n x = some vs) (hs : ∀ s, x = .string s → size = 1) (hx : VR R x x') :
    ∃ us : Array Value, (Builtin.firstCells size n x').run P w = .ok us w ∧ LR R vs us.toList := by
  have hn0 : n ≠ 0 := by intro e; subst e; simp at hn
  unfold firstA at he
  split at he
  · rename_i id off len cap
    cases hx with
    | slice _ _ _ _ l hl hc =>
      obtain ⟨us, h1, h2, h3⟩ := seg_cells hr he hl
      have := run_loadCells_list (P := P) w ⟨l.blk, l.off + off, none⟩ us h3
      rw [h2] at this
      exact ⟨us.toArray, by simp [Builtin.firstCells, this], by simpa using h1⟩
    | sliceU _ _ _ e0 cap' a l hl hlc ha =>
      have hle : n ≤ len := by
        rcases hlen with hlen | ⟨m, hm, hle⟩
        · simp only [lenOfA, Option.some.injEq] at hlen; omega
        · simp only [lenOfA, Option.some.injEq] at hm; omega
      rcases ha with ha | ⟨rfl, ha⟩
      · omega
      · obtain ⟨us, h1, h2, h3⟩ := seg_cells hr he hl
        have := run_loadCells_list (P := P) w ⟨l.blk, l.off + off, none⟩ us h3
        rw [h2] at this
        exact ⟨us.toArray, by simp [Builtin.firstCells, this], by simpa using h1⟩
  · rename_i s
    cases hx
    cases he
    refine ⟨(s.extract 0 n).data.map fun b => .int .u8 b.toNat, by simp [Builtin.firstCells], ?_⟩
    have hd : (s.extract 0 n).data.toList = s.data.toList.take n := by simp
    refine ⟨by rw [Array.toList_map, hd], fun i x y a b => ?_⟩
    rw [Array.toList_map, hd] at b
    rw [a] at b
    cases b
    obtain ⟨q, _, rfl⟩ := List.mem_map.1 (List.mem_of_getElem? a)
    exact .int _ _
  · cases he

theorem aCopy_sound (hT : TyOk P Ty) (hr : Rel h R w) {t0 t1 ty : TypeId} {dst dst' src src' v : Value} {h' : H} (he : aCopy Ty h t0 dst src = some (v, h')) (hd : VR R dst dst') (hs : VR R src src') (hstr : ∀ s e, src = .string s → Ty t0 = some e → ∀ el, e.d = .slice el → ∀ ie, Ty el = some ie → ie.size = 1) :
    ∃ w', (Builtin.copy_ #[t0, t1] ty #[dst', src']).run P w = .ok v w' ∧ Step h R w h' R w' ∧ Q h h' ∧ closedS v = true := by
  unfold aCopy at he
  split at he
  · rename_i e sz bt z fl base dLen cap sLen ht hlen
    obtain ⟨D, hD, hok⟩ := (hT t0 _ ht).und
    cases D <;> simp only [TD.ok] at hok
    subst hok
    have hl := fun w' => lenOfA_sound (P := P) (w := w') hlen hs
    split at he
    · cases he
    · rename_i ie hie
      cases hb : Nat.beq (Nat.min sLen dLen) 0 with
      | true =>
        rw [hb] at he
        cases he
        have h0 := Nat.eq_of_beq_eq_true hb
        have hf : (Builtin.firstCells ie.size 0 src').run P w = .ok #[] w := by
          cases hs <;> first | (simp [lenOfA] at hlen; done) | simp [Builtin.firstCells, loadCells, loadCellsFrom]
        refine ⟨w, ?_, Step.refl hr, Q.refl _, rfl⟩
        have hm : ∃ base' cap', dst' = .slice base' dLen cap' := by cases hd <;> exact ⟨_, _, rfl⟩
        obtain ⟨base', cap', rfl⟩ := hm
        cases base' with
        | none => simp [Builtin.copy_, run_underlying hD, hl, h0, hT.sizeOf hie, hf, goInt]
        | some a => simp [Builtin.copy_, run_underlying hD, hl, h0, hT.sizeOf hie, hf, goInt, storeCells]
      | false =>
        rw [hb] at he
        simp only [cond_false] at he
        have hne : Nat.min sLen dLen ≠ 0 := by intro e; rw [e] at hb; simp at hb
        split at he
        · rename_i id off vs hfa
          cases hw : h.write id off vs with
          | none => rw [hw] at he; cases he
          | some h2 =>
            rw [hw] at he
            cases he
            obtain ⟨lo, hlo, cap', rfl⟩ : ∃ lo, R id = some lo ∧ ∃ cap', dst' = .slice (some ⟨lo.blk, lo.off + off, none⟩) dLen cap' := by
              cases hd with
              | slice _ _ _ _ lo hl hc => exact ⟨lo, hl, _, rfl⟩
              | sliceU _ _ _ e0 cap' a lo hl hlc ha =>
                rcases ha with ha | ⟨rfl, ha⟩
                · exfalso
                  have : Nat.min sLen dLen ≤ dLen := Nat.min_le_right _ _
                  omega
                · exact ⟨lo, hl, _, rfl⟩
            by_cases hz : Nat.min sLen dLen * ie.size = 0
            · have hz0 : ie.size = 0 := by rcases Nat.mul_eq_zero.1 hz with h | h; exact absurd h hne; exact h
              have hvs : vs = [] := by
                unfold firstA at hfa
                split at hfa
                · unfold H.seg at hfa
                  split at hfa
                  · rw [hz0, Nat.mul_zero] at hfa
                    obtain ⟨_, _, h3⟩ := seg_some hfa
                    exact List.eq_nil_of_length_eq_zero h3
                  · cases hfa
                · rename_i s
                  have := hstr s _ rfl ht e rfl ie hie
                  omega
                · cases hfa
              subst hvs
              have hf : (Builtin.firstCells ie.size (Nat.min sLen dLen) src').run P w = .ok #[] w := by
                rw [hz0]
                cases hs with
                | string s =>
                  have := hstr s _ rfl ht e rfl ie hie
                  omega
                | _ => first | (simp [lenOfA] at hlen; done) | simp [Builtin.firstCells, loadCells, loadCellsFrom]
              obtain ⟨k1, k2, k3⟩ := write_step (P := P) (us := []) hr hw hlo ⟨rfl, fun i x y a b => by simp at a⟩
              refine ⟨_, ?_, k2, k3, rfl⟩
              simp only [Builtin.copy_]
              simp [run_underlying hD, hl, hT.sizeOf hie, hf, goInt, storeCells, World.setCells]
            · obtain ⟨us, hf, hlu⟩ := firstA_sound (P := P) hr hz (.inr ⟨sLen, hlen, Nat.min_le_left _ _⟩) hfa (fun s e0 => hstr s _ e0 ht e rfl ie hie) hs
              obtain ⟨k1, k2, k3⟩ := write_step (P := P) hr hw hlo hlu
              refine ⟨_, ?_, k2, k3, rfl⟩
              simp [Builtin.copy_, run_underlying hD, hl, hT.sizeOf hie, hf, goInt, k1]
        · cases he
  · cases he

/-! Maps -/

def ER (R : Ren) (es : List MapEntry) (es' : List MapEntry) : Prop := es.length = es'.length ∧ ∀ (i : Nat) (x y : MapEntry), es[i]? = some x → es'[i]? = some y → VR R x.key y.key ∧ VR R x.val y.val ∧ x.born = y.born

theorem sameNow_ok (hT : TyOk P Ty) {kt : TypeId} {d : Nat} {k e k' e' : Value} {b : Bool} {D : TypeDesc} (hD : P.underlying kt = some D) (he : aEq Ty (d + 1) kt k e = some b) (hk : VR R k k') (hx : VR R e e') : Instr.sameNow D k' e' = none ∨ Instr.sameNow D k' e' = some b := by
  unfold aEq at he
  cases ht : Ty kt with
  | none => rw [ht] at he; cases he
  | some i =>
    rw [ht] at he
    simp only at he
    cases hf : i.flat with
    | false => rw [hf] at he; simp at he
    | true =>
      rw [hf] at he
      simp only [cond_true] at he
      obtain ⟨D2, hD2, hok⟩ := (hT kt i ht).und
      rw [hD] at hD2; cases hD2
      cases hd : i.d <;> rw [hd] at he hok <;> cases D <;> simp only [TD.ok] at hok
      case struct.struct => exact .inl rfl
      case array.array => exact .inl rfl
      case bool.bool =>
        cases hk <;> cases hx <;> simp only [aEqS, reduceCtorEq, Option.some.injEq] at he
        exact .inr (by rw [← he]; rfl)
      case int.int =>
        cases hk <;> cases hx <;> simp only [aEqS, reduceCtorEq] at he
        split at he
        · rename_i hkk
          exact .inr (by rw [← he]; simp [Instr.sameNow, hkk])
        · cases he
      case string.string =>
        cases hk <;> cases hx <;> simp only [aEqS, reduceCtorEq, Option.some.injEq] at he
        exact .inr (by rw [← he]; simp [Instr.sameNow, beq_toListBytes, ByteArray.toList_eq])
      all_goals simp [aEqS] at he

theorem ER.tail {e e' : MapEntry} {es es' : List MapEntry} (h : ER R (e :: es) (e' :: es')) : ER R es es' :=
  ⟨by simpa using h.1, fun i x y a b => h.2 (i + 1) x y (by simpa using a) (by simpa using b)⟩

theorem aFind_sound (hT : TyOk P Ty) {kt : TypeId} {k k' : Value} {D : TypeDesc} (hD : P.underlying kt = some D) (hk : VR R k k') : ∀ (es es' : List MapEntry) (i : Nat) (r : Option (Nat × Value)), ER R es es' → aFind Ty kt k es i = some r →
    ∃ r' : Option (Nat × Value), (Instr.findNow D k' es' i = none ∨ Instr.findNow D k' es' i = some r') ∧ (Instr.findAsking kt k' es' i).run P w = .ok r' w ∧
      (match r with
       | none => r' = none
       | some (j, v) => ∃ v', r' = some (j, v') ∧ VR R v v' ∧ i ≤ j ∧ j < i + es.length)
  | [], [], i, r, _, h => by
    simp only [aFind, Option.some.injEq] at h
    subst h
    exact ⟨none, .inr rfl, rfl, rfl⟩
  | e :: es, e' :: es', i, r, hr, h => by
    simp only [aFind] at h
    have h0 := hr.2 0 e e' rfl rfl
    cases he : aEq Ty 10 kt k e.key with
    | none => rw [he] at h; cases h
    | some b =>
      have hs := sameNow_ok hT hD he hk h0.1
      have hq : (Op.equal kt k' e'.key).run P w = .ok b w := aEq_sound hT R 10 kt k e.key k' e'.key b 10000 (by omega) he hk h0.1
      rw [he] at h
      cases b with
      | true =>
        simp only [Option.some.injEq] at h
        subst h
        refine ⟨some (i, e'.val), ?_, by simp [Instr.findAsking, hq], e'.val, rfl, h0.2.1, by omega, by simp⟩
        rcases hs with hs | hs
        · exact .inl (by simp [Instr.findNow, hs])
        · exact .inr (by simp [Instr.findNow, hs])
      | false =>
        simp only at h
        obtain ⟨r', h1, h2, h3⟩ := aFind_sound hT hD hk es es' (i + 1) r hr.tail h
        refine ⟨r', ?_, by simp [Instr.findAsking, hq, h2], ?_⟩
        · rcases hs with hs | hs
          · exact .inl (by simp [Instr.findNow, hs])
          · simpa [Instr.findNow, hs] using h1
        · cases r with
          | none => exact h3
          | some p =>
            obtain ⟨v', a, b, c, d⟩ := h3
            exact ⟨v', a, b, by omega, by simp; omega⟩
  | [], _ :: _, _, _, hr, _ => by simp [ER] at hr
  | _ :: _, [], _, _, hr, _ => by simp [ER] at hr

theorem findKey_sound (hT : TyOk P Ty) {kt : TypeId} {ik : TI} (hkt : Ty kt = some ik) {k k' : Value} (hk : VR R k k') {es es' : List MapEntry} {r : Option (Nat × Value)} (he : ER R es es') (hf : aFind Ty kt k es 0 = some r) :
    ∃ r' : Option (Nat × Value), (Instr.findKey kt k' es').run P w = .ok r' w ∧
      (match r with
       | none => r' = none
       | some (j, v) => ∃ v', r' = some (j, v') ∧ VR R v v' ∧ j < es.length) := by
  obtain ⟨D, hD, _⟩ := (hT kt ik hkt).und
  obtain ⟨r', h1, h2, h3⟩ := aFind_sound (w := w) hT hD hk es es' 0 r he hf
  refine ⟨r', ?_, ?_⟩
  · unfold Instr.findKey
    rcases h1 with h1 | h1
    · simp [run_underlying hD, h1, h2]
    · simp [run_underlying hD, h1]
  · cases r with
    | none => exact h3
    | some p => obtain ⟨v', a, b, c, d⟩ := h3; exact ⟨v', a, b, by omega⟩

theorem aChk_sound (hT : TyOk P Ty) (empty : Bool) : ∀ (d : Nat) (t : TypeId) (v v' : Value) (k : Nat), d ≤ k → aChk Ty d t v = true → VR R v v' → (Instr.checkKey empty k t v').run P w = .ok () w := by
  intro d
  induction d with
  | zero => intro t v v' k _ h; simp [aChk] at h
  | succ d ih =>
    intro t v v' k hk h hv
    obtain ⟨k, rfl⟩ : ∃ m, k = m + 1 := ⟨k - 1, by omega⟩
    unfold aChk at h
    cases ht : Ty t with
    | none => rw [ht] at h; simp at h
    | some i =>
      rw [ht] at h
      simp only at h
      obtain ⟨D, hD, hok⟩ := (hT t i ht).und
      cases hd : i.d <;> rw [hd] at h hok <;> cases D <;> simp only [TD.ok] at hok
      case struct.struct fs fields =>
        cases hv with
        | agg xs ys hs hvv =>
          simp only [Bool.and_eq_true] at h
          obtain ⟨hf, h⟩ := h
          have hn : ∀ f ∈ fields.toList, f.name ≠ "_" := ((hT t i ht).flat hf).2.2 fields hD
          subst hok
          unfold Instr.checkKey
          simp only [Sem.run_bind, run_underlying hD, Result.andThen_ok]
          rw [← Array.forIn_toList]
          clear hD hd
          generalize fields.toList = fl at *
          have lx := LR.ofArr hs hvv
          induction fl with
          | nil => simp
          | cons f fl ihf =>
            simp only [List.map_cons, aChkFs] at h
            split at h
            · rename_i v1 hp
              rw [Bool.and_eq_true] at h
              obtain ⟨v1', p1, r1⟩ := part_sound (w := w) hT lx hp
              have hc := ih f.type v1 v1' k (by omega) h.1 r1
              simp only [List.forIn_cons, Sem.run_bind, Sem.run_ite, hn f (by simp), ne_eq, not_false_eq_true, if_true, p1, Result.andThen_ok, hc, Sem.run_pure]
              exact ihf (fun f hf => hn f (by simp [hf])) h.2
            · cases h
        | _ => simp at h
      case array.array => simp at h
      all_goals (unfold Instr.checkKey; cases hv <;> simp [run_underlying hD])

theorem zeroV_sound (hT : TyOk P Ty) {t : TypeId} {i : TI} (ht : Ty t = some i) (h1 : (i.d.agg || Nat.beq i.zero.length 1) = true) : (zeroValue t).run P w = .ok (zeroV i) w ∧ closedB (zeroV i) = true := by
  obtain ⟨z, hz, hz1, hz2, hz3⟩ := hT.zero (w := w) ht
  have hc := (hT t i ht).zc
  cases ha : i.d.agg with
  | true =>
    have hzz := hz3 ha
    have hv : zeroV i = z := by
      rw [hzz]
      unfold zeroV
      split
      · rename_i y hy; rw [hy]; simp [ha]
      · rfl
    rw [hv]
    refine ⟨hz, ?_⟩
    rw [hzz]
    simp only [closedB, List.all_eq_true]
    intro v hm
    exact hc v (by simpa using hm)
  | false =>
    have hzz := hz2 ha
    have hv : zeroV i = z := by
      unfold zeroV
      rw [hzz]
      simp [ha]
    rw [hv]
    refine ⟨hz, ?_⟩
    have h3 := hc z (by rw [hzz]; simp)
    cases z <;> simp_all [closedB, closedS]

theorem closedB_eq {k k' : Value} (hc : closedB k = true) (hk : VR R k k') : k' = k := by
  have hS : ∀ {x y : Value}, closedS x = true → VR R x y → y = x := by
    intro x y hx hxy
    cases hxy <;> simp_all [closedS]
  cases hk with
  | agg xs ys hs h =>
    simp only [closedB, List.all_eq_true] at hc
    congr 1
    apply Array.ext
    · exact hs.symm
    · intro i h1 h2
      exact hS (hc _ (Array.getElem_mem_toList h2)) (h i _ _ (Array.getElem?_eq_getElem h2) (Array.getElem?_eq_getElem h1))
  | _ => first | exact hS hc (by first | exact .bool _ | exact .int _ _ | exact .float _ _ | exact .complex _ _ _ | exact .string _ | exact .pnil | exact .snil _ _ | exact .mnil | exact .nilFunc | exact .nilIface) | (simp [closedB, closedS] at hc)
end
end
end Go.Ab
