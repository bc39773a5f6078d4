/- Loads, stores, addresses, slices, new objects, over an abstract heap. Conditions: none. -/
import Derived.Test.YtcgoamfjpnkiiaaGreatAbD
set_option linter.all false
namespace Go.Ab
noncomputable section
open Go.RowKit

def aLoad (Ty : Types) (h : H) (t : TypeId) (x : Value) : Option Value :=
  match x with
  | .pointer (some ⟨id, off, none⟩) => match h.get id with
    | some (.cells cs _ _) => aPart Ty t cs off
    | _ => none
  | _ => none

def aStore (Ty : Types) (h : H) (t : TypeId) (x v : Value) : Option H :=
  match x, Ty t with
  | .pointer (some ⟨id, off, none⟩), some i => cond (Nat.beq v.cells.toList.length i.size) (h.write id off v.cells.toList) none
  | _, _ => none

def aFieldAddr (Ty : Types) (t : TypeId) (x : Value) (f : Nat) : Option Value :=
  match Ty t, x with
  | some { d := .struct fs, .. }, .pointer (some ⟨id, off, none⟩) => match fs[f]? with
    | some (fo, ft) => match Ty ft with
      | some i => cond (Nat.beq i.size 0) none (some (.pointer (some ⟨id, off + fo, none⟩)))
      | none => none
    | none => none
  | _, _ => none

def aIndexAddr (Ty : Types) (t : TypeId) (x i : Value) : Option Value :=
  match Ty t, x, i with
  | some { d := .array n e, .. }, .pointer (some ⟨id, off, none⟩), .int _ i => match Ty e with
    | some ie => if 0 ≤ i ∧ i < n then some (.pointer (some ⟨id, off + i.toNat * ie.size, none⟩)) else none
    | none => none
  | some { d := .slice e, .. }, .slice (some ⟨id, off, none⟩) len _, .int _ i => match Ty e with
    | some ie => if 0 ≤ i ∧ i < len then some (.pointer (some ⟨id, off + i.toNat * ie.size, none⟩)) else none
    | none => none
  | _, _, _ => none

def bnd (v : Value) (y : Nat) : Option Nat :=
  match v with
  | .int _ i => if 0 ≤ i ∧ i ≤ y then some i.toNat else none
  | _ => none

def bnds (len cap : Nat) (lo hi mx : Option Value) : Option (Nat × Nat × Nat) :=
  match (match mx with | some v => bnd v cap | none => some cap) with
  | none => none
  | some m => match (match hi, mx with | some v, _ => bnd v m | none, none => some len | none, some _ => none) with
    | none => none
    | some h => match (match lo with | some v => bnd v h | none => some 0) with
      | none => none
      | some l => some (l, h, m)

def aSlice (Ty : Types) (t : TypeId) (x : Value) (lo hi mx : Option Value) : Option Value :=
  match Ty t, x with
  | some { d := .array n e, .. }, .pointer (some ⟨id, off, none⟩) => match Ty e, bnds n n lo hi mx with
    | some ie, some (l, h, m) => cond (Nat.blt m UNK) (some (.slice (some ⟨id, off + (cond (Nat.beq m l) 0 (l * ie.size)), none⟩) (h - l) (m - l))) none
    | _, _ => none
  | some { d := .string, .. }, .string s => match mx with
    | some _ => none
    | none => match bnds s.size s.size lo hi none with
      | some (l, h, _) => some (.string (s.extract l h))
      | none => none
  | some { d := .slice e, .. }, .slice none len cap => match Ty e, bnds len cap lo hi mx with
    | some _, some (l, h, m) => some (.slice none (h - l) (m - l))
    | _, _ => none
  | some { d := .slice e, .. }, .slice (some ⟨id, off, none⟩) len cap => match Ty e with
    | none => none
    | some ie => cond (Nat.blt cap UNK)
        (match bnds len cap lo hi mx with
          | some (l, h, m) => some (.slice (some ⟨id, off + (cond (Nat.beq m l) 0 (l * ie.size)), none⟩) (h - l) (m - l))
          | none => none)
        (cond (Nat.beq cap (UNK + ie.size))
          (match bnds len len lo hi mx with
            | some (l, h, m) => match mx with
              | none => some (.slice (some ⟨id, off + l * ie.size, none⟩) (h - l) cap)
              | some _ => cond (Nat.beq m l) (some (.slice (some ⟨id, off + l * ie.size, none⟩) 0 cap)) (cond (Nat.blt m UNK) (some (.slice (some ⟨id, off + l * ie.size, none⟩) (h - l) (m - l))) none)
            | none => none) none)
  | _, _ => none

def aNilCheck (x : Value) : Option Value :=
  match x with
  | .pointer (some a) => some (.pointer (some a))
  | .func (.func f) us vs => some (.func (.func f) us vs)
  | _ => none

def aBox (h : H) (elem : TypeId) (v : Value) : Value × H := (.pointer (some ⟨h.n, 0, none⟩), h.new (.cells v.cells.toList elem false))

def aAlloc (Ty : Types) (h : H) (elem : TypeId) : Option (Value × H) :=
  match Ty elem with
  | some i => some (.pointer (some ⟨h.n, 0, none⟩), h.new (.cells i.zero elem false))
  | none => none

def rep (z : List Value) (n : Nat) : List Value := Nat.rec (motive := fun _ => List Value) [] (fun _ ih => Fast.app z ih) n
theorem rep_zero (z : List Value) : rep z 0 = [] := rfl
theorem rep_succ (z : List Value) (n : Nat) : rep z (n + 1) = z ++ rep z n := Fast.app_eq ..

def aBuildSlice (Ty : Types) (h : H) (t : TypeId) (len : Nat) (parts : List (Nat × Value)) : Option (Value × H) :=
  match Ty t with
  | some { d := .slice e, .. } => match Ty e with
    | some ie => if len * ie.size ≤ 2 ^ 24 ∧ 0 < ie.size ∧ len < UNK then match aFill (fun j => some (j * ie.size, ie.size)) (rep ie.zero len) parts with
        | some cs => some (.slice (some ⟨h.n, 0, none⟩) len len, h.new (.cells cs e false))
        | none => none
      else none
    | none => none
  | _ => none

def aMakeSlice (Ty : Types) (h : H) (t : TypeId) (len cap : Value) : Option (Value × H) :=
  match Ty t, len, cap with
  | some { d := .slice e, .. }, .int _ l, .int _ c => match Ty e with
    | some ie => if 0 ≤ l ∧ l ≤ c ∧ c < 2 ^ 62 ∧ ie.bytes * c ≤ 2 ^ 48 ∧ 0 < ie.size then
        some (.slice (some ⟨h.n, 0, none⟩) l.toNat c.toNat, h.new (.cells (rep ie.zero c.toNat) e false))
      else none
    | none => none
  | _, _, _ => none

section
variable {P : Program} {Ty : Types} {h : H} {R : Ren} {w : World}

theorem aPart_seg {t : TypeId} {cs : List Value} {off : Nat} {v : Value} (hp : aPart Ty t cs off = some v) : ∃ i, Ty t = some i ∧ ((i.d.agg = true ∧ ∃ vs, seg cs off i.size = some vs ∧ v = .agg vs.toArray) ∨ (i.d.agg = false ∧ cs[off]? = some v)) := by
  unfold aPart at hp
  cases ht : Ty t with
  | none => rw [ht] at hp; cases hp
  | some i =>
    rw [ht] at hp
    refine ⟨i, rfl, ?_⟩
    cases ha : i.d.agg with
    | true =>
      simp only [ha, cond_true] at hp
      cases hs : seg cs off i.size with
      | none => rw [hs] at hp; cases hp
      | some vs => rw [hs] at hp; cases hp; exact .inl ⟨rfl, vs, rfl, rfl⟩
    | false => simp only [ha, cond_false] at hp; exact .inr ⟨rfl, hp⟩

theorem aLoad_sound (hT : TyOk P Ty) (hr : Rel h R w) {t : TypeId} {x x' v : Value} (he : aLoad Ty h t x = some v) (hx : VR R x x') : ∃ v', (Instr.loadAt t x').run P w = .ok v' w ∧ VR R v v' := by
  unfold aLoad at he
  split at he
  · rename_i id off
    split at he
    · rename_i cs tg ro hg
      cases hx with
      | ptr _ _ l hl =>
        obtain ⟨i, ht, hc⟩ := aPart_seg he
        rcases hc with ⟨ha, vs, hs, rfl⟩ | ⟨ha, hs⟩
        · obtain ⟨us, hlr, hlen, hcell⟩ := seg_cells hr (n := i.size) (vs := vs) (by unfold H.seg; rw [hg]; exact hs) hl
          refine ⟨.agg us.toArray, ?_, LR.agg (by simpa using hlr)⟩
          have := run_loadCells_list (P := P) w ⟨l.blk, l.off + off, none⟩ us hcell
          rw [hlen] at this
          simp [Instr.loadAt, Instr.sureAddr, loadVar, hT.isAgg ht, ha, hT.sizeOf ht, this]
        · obtain ⟨l', c, e, fr, h1, h2, h3, h4, h5, h6⟩ := hr.obj id _ hg
          rw [hl] at h1; cases h1
          obtain ⟨v', hv, hvr⟩ := h5 _ _ hs
          refine ⟨v', ?_, hvr⟩
          have hcell : w.cell? ⟨l.blk, l.off + off, none⟩ = some v' := by simpa [World.cell?, h2] using hv
          simp [Instr.loadAt, Instr.sureAddr, loadVar, hT.isAgg ht, ha, hcell]
    · cases he
  · cases he

theorem aStore_sound (hT : TyOk P Ty) (hr : Rel h R w) {t : TypeId} {x x' v v' : Value} {h' : H} (he : aStore Ty h t x v = some h') (hx : VR R x x') (hv : VR R v v') :
    ∃ w', (Instr.storeAt t x' v').run P w = .ok () w' ∧ Step h R w h' R w' ∧ Q h h' := by
  unfold aStore at he
  split at he
  · rename_i id off i ht
    cases hx with
    | ptr _ _ l hl =>
      cases hb : Nat.beq v.cells.toList.length i.size with
      | false => rw [hb] at he; cases he
      | true =>
        rw [hb] at he
        have hsz := Nat.eq_of_beq_eq_true hb
        obtain ⟨h1, h2, h3⟩ := write_step (P := P) hr he hl hv.cells
        refine ⟨_, ?_, h2, h3⟩
        have hsz' : v'.cells.size = i.size := by rw [← hsz, hv.cells.1]; simp
        simp [Instr.storeAt, Instr.sureAddr, storeVar, hT.sizeOf ht, hsz', h1]
  · cases he

theorem aFieldAddr_sound (hT : TyOk P Ty) {t : TypeId} {x x' v : Value} {f : Nat} (he : aFieldAddr Ty t x f = some v) (hx : VR R x x') : ∃ v', (Instr.fieldAt t x' f).run P w = .ok v' w ∧ VR R v v' := by
  unfold aFieldAddr at he
  split at he
  · rename_i fs sz bt z fl zc id off ht
    cases hx with
    | ptr _ _ l hl =>
      obtain ⟨D, hD, hok⟩ := (hT t _ ht).und
      cases D <;> simp only [TD.ok] at hok
      rename_i fields
      subst hok
      split at he
      · rename_i fo ft hf
        simp only [List.getElem?_map, Option.map_eq_some_iff, Prod.mk.injEq] at hf
        obtain ⟨fd, hfd, rfl, rfl⟩ := hf
        split at he
        · rename_i i hi
          cases hb : Nat.beq i.size 0 with
          | true => rw [hb] at he; cases he
          | false =>
            rw [hb] at he
            cases he
            have hne : ¬ i.size = 0 := by intro e; rw [e] at hb; cases hb
            rw [Array.getElem?_toList] at hfd
            refine ⟨.pointer (some ⟨l.blk, l.off + (off + fd.offset), none⟩), ?_, .ptr _ _ l hl⟩
            simp [Instr.fieldAt, run_underlying hD, hfd, Instr.sureAddr, fieldPlace, hT.sizeOf hi, hne, add_none, Nat.add_assoc]
        · cases he
      · cases he
  · cases he

theorem aIndexAddr_sound (hT : TyOk P Ty) {t : TypeId} {x x' i i' v : Value} (he : aIndexAddr Ty t x i = some v) (hx : VR R x x') (hi : VR R i i') : ∃ v', (Instr.indexAt t x' i').run P w = .ok v' w ∧ VR R v v' := by
  unfold aIndexAddr at he
  split at he
  · rename_i n e sz bt z fl id off k j ht
    cases hi
    cases hx with
    | ptr _ _ l hl =>
      obtain ⟨D, hD, hok⟩ := (hT t _ ht).und
      cases D <;> simp only [TD.ok] at hok
      obtain ⟨rfl, rfl⟩ := hok
      split at he
      · rename_i ie hie
        split at he
        · rename_i hb
          cases he
          refine ⟨.pointer (some ⟨l.blk, l.off + (off + j.toNat * ie.size), none⟩), ?_, .ptr _ _ l hl⟩
          simp [Instr.indexAt, asIntOf, run_underlying hD, Instr.sureAddr, hb, hT.sizeOf hie, add_none, Nat.add_assoc]
        · cases he
      · cases he
  · rename_i e sz bt z fl id off len cap k j ht
    cases hi
    obtain ⟨D, hD, hok⟩ := (hT t _ ht).und
    cases D <;> simp only [TD.ok] at hok
    subst hok
    split at he
    · rename_i ie hie
      split at he
      · rename_i hb
        cases he
        cases hx with
        | slice _ _ _ _ l hl hc =>
          refine ⟨.pointer (some ⟨l.blk, l.off + (off + j.toNat * ie.size), none⟩), ?_, .ptr _ _ l hl⟩
          simp [Instr.indexAt, asIntOf, run_underlying hD, hb, hT.sizeOf hie, add_none, Nat.add_assoc]
        | sliceU _ _ _ e0 cap' a l hl hlc ha =>
          rcases ha with ha | ⟨rfl, ha⟩
          · omega
          · refine ⟨.pointer (some ⟨l.blk, l.off + (off + j.toNat * ie.size), none⟩), ?_, .ptr _ _ l hl⟩
            simp [Instr.indexAt, asIntOf, run_underlying hD, hb, hT.sizeOf hie, add_none, Nat.add_assoc]
      · cases he
    · cases he
  · cases he

theorem bnd_sound {v v' : Value} {y m : Nat} (hb : bnd v y = some m) (hv : VR R v v') (y' : Nat) (hy : y ≤ y') (code : BoundsCode) : (Instr.sliceBound v' y' code).run P w = .ok m w ∧ m ≤ y := by
  unfold bnd at hb
  cases hv <;> simp only at hb <;> try (cases hb; done)
  split at hb
  · rename_i h1
    cases hb
    refine ⟨?_, by omega⟩
    have h2 : ∀ i : Int, 0 ≤ i ∧ i ≤ (y : Int) → (0 ≤ i ∧ i ≤ (y' : Int)) := fun i hi => ⟨hi.1, by omega⟩
    simp [Instr.sliceBound, asIntOf, h2 _ h1]
  · cases hb

def OVR (R : Ren) : Option Value → Option Value → Prop
  | none, none => True
  | some x, some y => VR R x y
  | _, _ => False

/-- With the capacity itself: the same three numbers. -/
theorem bnds_sound {len cap l hh m : Nat} {lo hi mx lo' hi' mx' : Option Value} (hb : bnds len cap lo hi mx = some (l, hh, m)) (h1 : OVR R lo lo') (h2 : OVR R hi hi') (h3 : OVR R mx mx') (sl : Bool) :
    (Instr.sliceBounds sl len cap lo' hi' mx').run P w = .ok (l, hh, m) w ∧ l ≤ hh ∧ m ≤ cap := by
  unfold bnds at hb
  split at hb
  · cases hb
  · rename_i m' hm
    split at hb
    · cases hb
    · rename_i h' hh'
      split at hb
      · cases hb
      · rename_i l' hl'
        cases hb
        cases mx <;> cases mx' <;> simp only [OVR] at h3
        · cases hi <;> cases hi' <;> simp only [OVR] at h2 <;> cases lo <;> cases lo' <;> simp only [OVR] at h1 <;> simp only [Option.some.injEq] at hm hh' hl' <;> subst hm
          · subst hh'; subst hl'; exact ⟨by simp [Instr.sliceBounds], by omega, by omega⟩
          · subst hh'
            obtain ⟨a, b⟩ := bnd_sound (P := P) (w := w) hl' h1 _ (Nat.le_refl _) .sliceB
            exact ⟨by simp [Instr.sliceBounds, a], b, by omega⟩
          · subst hl'
            obtain ⟨a, b⟩ := bnd_sound (P := P) (w := w) hh' h2 _ (Nat.le_refl _) (if sl then .sliceAcap else .sliceAlen)
            exact ⟨by simp [Instr.sliceBounds, a], by omega, by omega⟩
          · obtain ⟨a, b⟩ := bnd_sound (P := P) (w := w) hh' h2 _ (Nat.le_refl _) (if sl then .sliceAcap else .sliceAlen)
            obtain ⟨a2, b2⟩ := bnd_sound (P := P) (w := w) hl' h1 _ (Nat.le_refl _) .sliceB
            exact ⟨by simp [Instr.sliceBounds, a, a2], b2, by omega⟩
        · obtain ⟨a0, b0⟩ := bnd_sound (P := P) (w := w) hm h3 _ (Nat.le_refl _) (if sl then .slice3Acap else .slice3Alen)
          cases hi <;> cases hi' <;> simp only [OVR] at h2 <;> cases lo <;> cases lo' <;> simp only [OVR] at h1 <;> simp only [Option.some.injEq, reduceCtorEq] at hh' hl'
          · subst hl'
            obtain ⟨a, b⟩ := bnd_sound (P := P) (w := w) hh' h2 _ (Nat.le_refl _) .slice3B
            exact ⟨by simp [Instr.sliceBounds, a0, a], by omega, b0⟩
          · obtain ⟨a, b⟩ := bnd_sound (P := P) (w := w) hh' h2 _ (Nat.le_refl _) .slice3B
            obtain ⟨a2, b2⟩ := bnd_sound (P := P) (w := w) hl' h1 _ (Nat.le_refl _) .slice3C
            exact ⟨by simp [Instr.sliceBounds, a0, a, a2], b2, b0⟩

/-- With a capacity of which no more is known than that it is not below the length. -/
theorem bnds_soundU {len cap l hh m : Nat} {lo hi mx lo' hi' mx' : Option Value} (hb : bnds len len lo hi mx = some (l, hh, m)) (hc : len ≤ cap) (h1 : OVR R lo lo') (h2 : OVR R hi hi') (h3 : OVR R mx mx') :
    (Instr.sliceBounds true len cap lo' hi' mx').run P w = .ok (l, hh, if mx.isSome then m else cap) w ∧ l ≤ hh ∧ hh ≤ len ∧ hh ≤ m ∧ m ≤ len := by
  unfold bnds at hb
  split at hb
  · cases hb
  · rename_i m' hm
    split at hb
    · cases hb
    · rename_i h' hh'
      split at hb
      · cases hb
      · rename_i l' hl'
        cases hb
        cases mx <;> cases mx' <;> simp only [OVR] at h3
        · cases hi <;> cases hi' <;> simp only [OVR] at h2 <;> cases lo <;> cases lo' <;> simp only [OVR] at h1 <;> simp only [Option.some.injEq] at hm hh' hl' <;> subst hm
          · subst hh'; subst hl'; exact ⟨by simp [Instr.sliceBounds], by omega, by omega, by omega, by omega⟩
          · subst hh'
            obtain ⟨a, b⟩ := bnd_sound (P := P) (w := w) hl' h1 _ (Nat.le_refl _) .sliceB
            exact ⟨by simp [Instr.sliceBounds, a], b, by omega, by omega, by omega⟩
          · subst hl'
            obtain ⟨a, b⟩ := bnd_sound (P := P) (w := w) hh' h2 _ hc .sliceAcap
            exact ⟨by simp [Instr.sliceBounds, a], by omega, b, b, by omega⟩
          · obtain ⟨a, b⟩ := bnd_sound (P := P) (w := w) hh' h2 _ hc .sliceAcap
            obtain ⟨a2, b2⟩ := bnd_sound (P := P) (w := w) hl' h1 _ (Nat.le_refl _) .sliceB
            exact ⟨by simp [Instr.sliceBounds, a, a2], b2, b, b, by omega⟩
        · obtain ⟨a0, b0⟩ := bnd_sound (P := P) (w := w) hm h3 _ hc .slice3Acap
          cases hi <;> cases hi' <;> simp only [OVR] at h2 <;> cases lo <;> cases lo' <;> simp only [OVR] at h1 <;> simp only [Option.some.injEq, reduceCtorEq] at hh' hl'
          · subst hl'
            obtain ⟨a, b⟩ := bnd_sound (P := P) (w := w) hh' h2 _ (Nat.le_refl _) .slice3B
            exact ⟨by simp [Instr.sliceBounds, a0, a], by omega, by omega, b, b0⟩
          · obtain ⟨a, b⟩ := bnd_sound (P := P) (w := w) hh' h2 _ (Nat.le_refl _) .slice3B
            obtain ⟨a2, b2⟩ := bnd_sound (P := P) (w := w) hl' h1 _ (Nat.le_refl _) .slice3C
            exact ⟨by simp [Instr.sliceBounds, a0, a, a2], b2, by omega, b, b0⟩

theorem blt_true {a b : Nat} (h : Nat.blt a b = true) : a < b := Nat.le_of_ble_eq_true h

theorem addr_if {b o m l s : Nat} : (if m = l then (⟨b, o, none⟩ : Addr) else Addr.add ⟨b, o, none⟩ (l * s)) = ⟨b, o + (cond (Nat.beq m l) 0 (l * s)), none⟩ := by
  by_cases e : m = l
  · subst e; simp
  · have : Nat.beq m l = false := by
      cases hb : Nat.beq m l with
      | false => rfl
      | true => exact absurd (Nat.eq_of_beq_eq_true hb) e
    rw [if_neg e, add_none, this]; rfl

theorem aSlice_sound (hT : TyOk P Ty) {t : TypeId} {x x' v : Value} {lo hi mx lo' hi' mx' : Option Value} (he : aSlice Ty t x lo hi mx = some v) (hx : VR R x x') (h1 : OVR R lo lo') (h2 : OVR R hi hi') (h3 : OVR R mx mx') :
    ∃ v', (Instr.sliceAt t x' lo' hi' mx').run P w = .ok v' w ∧ VR R v v' := by
  unfold aSlice at he
  split at he
  · rename_i n e sz bt z fl id off ht
    cases hx with
    | ptr _ _ l0 hl =>
      obtain ⟨D, hD, hok⟩ := (hT t _ ht).und
      cases D <;> simp only [TD.ok] at hok
      obtain ⟨rfl, rfl⟩ := hok
      split at he
      · rename_i ie l hh m hie hb
        cases hm : Nat.blt m UNK with
        | false => rw [hm] at he; cases he
        | true =>
          rw [hm] at he
          cases he
          obtain ⟨hs, _⟩ := bnds_sound (P := P) (w := w) hb h1 h2 h3 false
          refine ⟨.slice (some ⟨l0.blk, l0.off + (off + (cond (Nat.beq m l) 0 (l * ie.size))), none⟩) (hh - l) (m - l), ?_, .slice _ _ _ _ l0 hl (by have := blt_true hm; omega)⟩
          simp [Instr.sliceAt, run_underlying hD, Instr.sureAddr, hs, hT.sizeOf hie, addr_if, Nat.add_assoc]
      · cases he
  · rename_i sz bt z fl s ht
    cases hx
    obtain ⟨D, hD, hok⟩ := (hT t _ ht).und
    cases D <;> simp only [TD.ok] at hok
    split at he
    · cases he
    · cases mx' <;> simp only [OVR] at h3
      split at he
      · rename_i l hh m hb
        cases he
        obtain ⟨hs, _⟩ := bnds_sound (P := P) (w := w) (mx' := none) hb h1 h2 trivial false
        exact ⟨_, by simp [Instr.sliceAt, run_underlying hD, Instr.slice, hs], .string _⟩
      · cases he
  · rename_i e sz bt z fl len cap ht
    cases hx
    obtain ⟨D, hD, hok⟩ := (hT t _ ht).und
    cases D <;> simp only [TD.ok] at hok
    subst hok
    split at he
    · rename_i ie l hh m hie hb
      cases he
      obtain ⟨hs, _⟩ := bnds_sound (P := P) (w := w) hb h1 h2 h3 true
      exact ⟨.slice none (hh - l) (m - l), by simp [Instr.sliceAt, run_underlying hD, Instr.slice, hs, hT.sizeOf hie], .snil _ _⟩
    · cases he
  · rename_i e sz bt z fl id off len cap ht
    obtain ⟨D, hD, hok⟩ := (hT t _ ht).und
    cases D <;> simp only [TD.ok] at hok
    subst hok
    split at he
    · cases he
    · rename_i ie hie
      cases hx with
      | slice _ _ _ _ l0 hl hc =>
        have hb' : Nat.blt cap UNK = true := Nat.ble_eq_true_of_le hc
        rw [hb'] at he
        simp only [cond_true] at he
        split at he
        · rename_i l hh m hb
          cases he
          obtain ⟨hs, _, hm⟩ := bnds_sound (P := P) (w := w) hb h1 h2 h3 true
          refine ⟨.slice (some ⟨l0.blk, l0.off + (off + (cond (Nat.beq m l) 0 (l * ie.size))), none⟩) (hh - l) (m - l), ?_, .slice _ _ _ _ l0 hl (by omega)⟩
          have hadd := addr_if (b := l0.blk) (o := l0.off + off) (m := m) (l := l) (s := ie.size)
          by_cases e : m = l
          · subst e; simp [Instr.sliceAt, run_underlying hD, Instr.slice, hs, hT.sizeOf hie]
          · rw [if_neg e] at hadd
            simp [Instr.sliceAt, run_underlying hD, Instr.slice, hs, hT.sizeOf hie, e, hadd, Nat.add_assoc]
        · cases he
      | sliceU _ _ _ e0 cap' a l0 hl hlc ha =>
        have hb' : Nat.blt (UNK + e0) UNK = false := by
          cases hb : Nat.blt (UNK + e0) UNK with
          | false => rfl
          | true => have := blt_true hb; omega
        rw [hb'] at he
        simp only [cond_false] at he
        cases hq : Nat.beq (UNK + e0) (UNK + ie.size) with
        | false => rw [hq] at he; cases he
        | true =>
          rw [hq] at he
          have hes : e0 = ie.size := by have := Nat.eq_of_beq_eq_true hq; omega
          subst hes
          simp only [cond_true] at he
          split at he
          · rename_i l hh m hb
            obtain ⟨hs, hlh, hhl, hhm, hml⟩ := bnds_soundU (P := P) (w := w) hb hlc h1 h2 h3
            cases mx with
            | none =>
              cases mx' <;> simp only [OVR] at h3
              simp only [Option.some.injEq] at he
              subst he
              simp only [Option.isSome_none, Bool.false_eq_true, if_false] at hs
              by_cases e : cap' = l
              · subst e
                refine ⟨.slice (some a) (hh - cap') (cap' - cap'), ?_, .sliceU _ _ _ _ _ _ l0 hl (by omega) (.inl (by omega))⟩
                simp [Instr.sliceAt, run_underlying hD, Instr.slice, hs, hT.sizeOf hie]
              · rcases ha with ha | ⟨rfl, ha⟩
                · omega
                · refine ⟨.slice (some ⟨l0.blk, l0.off + (off + l * ie.size), none⟩) (hh - l) (cap' - l), ?_, .sliceU _ _ _ _ _ _ l0 hl (by omega) (.inr ⟨rfl, ?_⟩)⟩
                  · simp [Instr.sliceAt, run_underlying hD, Instr.slice, hs, hT.sizeOf hie, e, add_none, Nat.add_assoc]
                  · obtain ⟨d, rfl⟩ : ∃ d, cap' = l + d := ⟨cap' - l, by omega⟩
                    rw [Nat.add_mul] at ha
                    rw [Nat.add_sub_cancel_left]
                    omega
            | some vm =>
              cases mx' <;> simp only [OVR] at h3
              simp only [Option.isSome_some, if_true] at hs
              simp only at he
              cases hq2 : Nat.beq m l with
              | true =>
                rw [hq2] at he
                cases he
                have hml := Nat.eq_of_beq_eq_true hq2
                subst hml
                refine ⟨.slice (some a) (hh - m) (m - m), ?_, ?_⟩
                · simp [Instr.sliceAt, run_underlying hD, Instr.slice, hs, hT.sizeOf hie]
                · have : hh - m = 0 := by omega
                  rw [this]
                  exact .sliceU _ _ _ _ _ _ l0 hl (by omega) (.inl (by omega))
              | false =>
                rw [hq2] at he
                simp only [cond_false] at he
                cases hq3 : Nat.blt m UNK with
                | false => rw [hq3] at he; cases he
                | true =>
                rw [hq3] at he
                cases he
                have hne : m ≠ l := by intro e; subst e; simp at hq2
                rcases ha with ha | ⟨rfl, ha⟩
                · omega
                · refine ⟨.slice (some ⟨l0.blk, l0.off + (off + l * ie.size), none⟩) (hh - l) (m - l), ?_, .slice _ _ _ _ l0 hl ?_⟩
                  · simp [Instr.sliceAt, run_underlying hD, Instr.slice, hs, hT.sizeOf hie, hne, add_none, Nat.add_assoc]
                  · have := blt_true hq3; omega
          · cases he
  · cases he
end
end
end Go.Ab
