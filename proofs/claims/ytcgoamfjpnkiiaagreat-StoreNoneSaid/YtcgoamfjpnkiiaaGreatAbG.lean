/- append, copy, over an abstract heap. Conditions: none. -/
import Derived.Test.YtcgoamfjpnkiiaaGreatAbF
set_option linter.all false
namespace Go.Ab
noncomputable section
open Go.RowKit

/-- How many elements are appended, and their cells. -/
def srcOf (h : H) (ie : TI) (zeros : Bool) (x : Value) : Option (Nat × List Value) :=
  match zeros, x with
  | true, .int _ n => if 0 ≤ n ∧ n < 2 ^ 62 ∧ n * ie.bytes ≤ 2 ^ 48 then some (n.toNat, rep ie.zero n.toNat) else none
  | false, .slice none l _ => cond (Nat.beq l 0) (some (0, [])) none
  | false, .slice (some ⟨id, off, none⟩) len _ => cond (Nat.beq len 0) (some (0, [])) (match h.seg id off (len * ie.size) with
    | some vs => some (len, vs)
    | none => none)
  | false, .string s => cond (Nat.beq ie.size 1) (some (s.size, s.data.toList.map fun b => .int .u8 b.toNat)) none
  | _, _ => none

def isIntD : TD → Bool
  | .int _ => true
  | _ => false

/-- A new row for what is appended to. -/
def aGrow (h : H) (e : TypeId) (ie : TI) (need : Nat) (cs : List Value) : Option (Value × H) :=
  if (2 * need + 192) * ie.bytes ≤ 2 ^ 48 ∧ need < 2 ^ 62 then some (.slice (some ⟨h.n, 0, none⟩) need (UNK + ie.size), h.new (.cells cs e false)) else none

def aAppend (Ty : Types) (h : H) (t0 t1 : TypeId) (s x : Value) : Option (Value × H) :=
  match Ty t0, Ty t1 with
  | some { d := .slice e, .. }, some i1 => match Ty e with
    | none => none
    | some ie => cond (Nat.beq ie.size 0) none (match srcOf h ie (isIntD i1.d) x with
      | none => none
      | some (n, vs) => match s with
        | .slice none l c => if l = 0 ∧ c = 0 then (cond (Nat.beq n 0) (some (s, h)) (aGrow h e ie n vs)) else none
        | .slice (some ⟨id, off, none⟩) len cap =>
          cond (Nat.blt cap UNK)
            (cond (Nat.ble (len + n) cap) (cond (Nat.beq n 0) (some (s, h)) (match h.write id (off + len * ie.size) vs with
                | some h' => some (.slice (some ⟨id, off, none⟩) (len + n) cap, h')
                | none => none))
              (cond (Nat.ble len cap) (match h.seg id off (len * ie.size) with
                | some old => aGrow h e ie (len + n) (Fast.app old vs)
                | none => none) none))
            (cond (Nat.beq cap (UNK + ie.size))
              (cond (Nat.beq n 0) (some (s, h)) (match h.get id with
                | some (.cells cs tag false) =>
                  cond (Nat.blt 0 len && Nat.ble (off + (len + n) * ie.size) (Fast.len cs))
                    (match h.write id (off + len * ie.size) vs with
                      | some h' => some (.slice (some ⟨id, off, none⟩) (len + n) cap, h')
                      | none => none)
                    (cond (Nat.beq off 0 && (Nat.ble (off + len * ie.size) (Fast.len cs) && Fast.all oneCell vs)) (aGrow (h.del id) tag ie (len + n) (Fast.app (Fast.take (len * ie.size) (Fast.drop off cs)) vs)) none)
                | _ => none)) none)
        | _ => none)
  | _, _ => none

theorem nextslicecap_le {need old : Nat} (ho : old < need) : Builtin.nextslicecap need old ≤ 2 * need + 192 := by
  have gb : ∀ r c, c ≤ 2 * need + 192 → Builtin.growBy need r c ≤ 2 * need + 192 := by
    intro r
    induction r with
    | zero => intro c hc; exact hc
    | succ r ih =>
      intro c hc
      simp only [Builtin.growBy]
      split
      · exact hc
      · rename_i h; exact ih _ (by omega)
  unfold Builtin.nextslicecap
  split
  · omega
  · split
    · omega
    · exact gb _ _ (by omega)

section
variable {P : Program} {Ty : Types} {h : H} {R : Ren} {w : World}

theorem srcOf_sound (hT : TyOk P Ty) (hr : Rel h R w) {e : TypeId} {ie : TI} (hie : Ty e = some ie) (hpos : 0 < ie.size) {x x' : Value} {zeros : Bool} {n : Nat} {vs : List Value} (he : srcOf h ie zeros x = some (n, vs)) (hx : VR R x x') :
    ∃ us : Array Value, LR R vs us.toList ∧ us.size = n * ie.size ∧
      (if zeros then ∃ k m, x' = .int k m ∧ 0 ≤ m ∧ m < 2 ^ 62 ∧ m * ie.bytes ≤ 2 ^ 48 ∧ n = m.toNat else (∀ w1 : World, (Builtin.lenOf x').run P w1 = .ok n w1)) ∧
      (zeros = false → (Builtin.firstCells ie.size n x').run P w = .ok us w) ∧
      (zeros = true → ∃ z, (zeroValue e).run P w = .ok z w ∧ us = Builtin.zeroCells z.cells n) := by
  unfold srcOf at he
  split at he
  · rename_i k m
    cases hx
    split at he
    · rename_i hb
      cases he
      obtain ⟨z, hz, hlz, hzs⟩ := zeroArr (w := w) (R := R) hT hie
      refine ⟨Builtin.zeroCells z.cells m.toNat, ?_, ?_, by simp only [if_true]; exact ⟨k, m, rfl, hb.1, hb.2.1, hb.2.2, rfl⟩, by simp, fun _ => ⟨z, hz, rfl⟩⟩
      · exact rep_LR hlz m.toNat _ rfl (.inl (by omega))
      · simp [Builtin.zeroCells, hzs]
    · cases he
  · rename_i l c
    cases hx
    cases hb : Nat.beq l 0 with
    | false => rw [hb] at he; cases he
    | true =>
      rw [hb] at he
      cases he
      have := Nat.eq_of_beq_eq_true hb
      subst this
      exact ⟨#[], ⟨rfl, fun i x y a b => by simp at a⟩, by simp, by simp [Builtin.lenOf], fun _ => by simp [Builtin.firstCells], by simp⟩
  · rename_i id off len cap
    cases hb : Nat.beq len 0 with
    | true =>
      rw [hb] at he
      cases he
      have := Nat.eq_of_beq_eq_true hb
      subst this
      refine ⟨#[], ⟨rfl, fun i x y a b => by simp at a⟩, by simp, ?_, fun _ => ?_, by simp⟩
      · cases hx <;> simp [Builtin.lenOf]
      · cases hx <;> simp [Builtin.firstCells, loadCells, loadCellsFrom]
    | false =>
      rw [hb] at he
      simp only [cond_false] at he
      cases hs : h.seg id off (len * ie.size) with
      | none => rw [hs] at he; cases he
      | some vs' =>
        rw [hs] at he
        have hne : len ≠ 0 := by intro e; subst e; simp at hb
        cases he
        cases hx with
        | slice _ _ _ _ l hl hc =>
          obtain ⟨us, h1, h2, h3⟩ := seg_cells hr hs hl
          have := run_loadCells_list (P := P) w ⟨l.blk, l.off + off, none⟩ us h3
          rw [h2] at this
          exact ⟨us.toArray, by simpa using h1, by simpa using h2, by simp [Builtin.lenOf], fun _ => by simp [Builtin.firstCells, this], by simp⟩
        | sliceU _ _ _ e0 cap' a l hl hlc ha =>
          rcases ha with ha | ⟨rfl, ha⟩
          · omega
          · obtain ⟨us, h1, h2, h3⟩ := seg_cells hr hs hl
            have := run_loadCells_list (P := P) w ⟨l.blk, l.off + off, none⟩ us h3
            rw [h2] at this
            exact ⟨us.toArray, by simpa using h1, by simpa using h2, by simp [Builtin.lenOf], fun _ => by simp [Builtin.firstCells, this], by simp⟩
  · rename_i s
    cases hx
    cases hb : Nat.beq ie.size 1 with
    | false => rw [hb] at he; cases he
    | true =>
      rw [hb] at he
      cases he
      have h1 := Nat.eq_of_beq_eq_true hb
      refine ⟨s.data.map fun b => .int .u8 b.toNat, ?_, ?_, by simp [Builtin.lenOf], fun _ => ?_, by simp⟩
      · refine ⟨by simp, fun i x y a b => ?_⟩
        simp only [Array.toList_map] at b
        rw [a] at b
        cases b
        obtain ⟨q, _, rfl⟩ := List.mem_map.1 (List.mem_of_getElem? a)
        exact .int _ _
      · rw [Array.size_map, h1, Nat.mul_one]; rfl
      · have : s.extract 0 s.size = s := by simp
        simp [Builtin.firstCells, this]
  · cases he

/-- The growth, in the world: what it makes. -/
theorem grow_run (hT : TyOk P Ty) {e : TypeId} {ie : TI} (hie : Ty e = some ie) (w : World) (sCap need : Nat) (hc : sCap < need) (hb : (2 * need + 192) * ie.bytes ≤ 2 ^ 48) (hn : need < 2 ^ 62)
    (oldR newR : Sem (Array Value)) (old new : Array Value) (ho : oldR.run P { w with drawn := w.drawn + 1 } = .ok old { w with drawn := w.drawn + 1 }) (hnw : newR.run P { w with drawn := w.drawn + 1 } = .ok new { w with drawn := w.drawn + 1 })
    (hs : old.size + new.size = need * ie.size) (sLen n : Nat) (base : Option Addr) (x : Value) (zeros : Bool) :
    ∃ (cap : Nat) (rest : Array Value), need ≤ cap ∧ (old ++ new ++ rest).size = cap * ie.size ∧
      (do
        if (need : Int) > IntKind.i64.max ∧ (zeros = true ∨ (← typeInfo e).bytes = 0) then runtimePanic (.error "growslice: len out of range")
        if Builtin.nextslicecap need sCap * (← typeInfo e).bytes > 2 ^ 48 then (if zeros then runtimePanic (.error "growslice: len out of range") else do
          if !(← Builtin.mayShare ie.size sLen n base x) then mark .noRoom
          unsupported (.resourceLimit "append: a slice or a string whose bytes no memory bears"))
        let newCap ← choose (.appendCap need sCap e)
        askRoom (newCap * (← typeInfo e).bytes)
        let old ← oldR
        let new ← newR
        let rest := Builtin.zeroCells (← zeroValue e).cells (newCap - need)
        pure (Value.slice (some (← newRow e (old ++ new ++ rest))) need newCap) : Sem Value).run P w =
      .ok (.slice (some ⟨w.heap.size, 0, none⟩) need cap) { w with drawn := w.drawn + 1, heap := w.heap.push (.cells (old ++ new ++ rest) e) } := by
  obtain ⟨z, hz, _, hzs⟩ := zeroArr (w := { w with drawn := w.drawn + 1 }) (R := fun _ => none) hT hie
  obtain ⟨f, hf, hfs, hfb⟩ := hT.typeInfo (w := w) hie
  obtain ⟨f2, hf2, hfs2, hfb2⟩ := hT.typeInfo (w := { w with drawn := w.drawn + 1 }) hie
  have hcut : (Question.appendCap need sCap e).cut (w.tape w.drawn (.appendCap need sCap e)) = need + w.tape w.drawn (.appendCap need sCap e) % (2 ^ 63 - need) := rfl
  refine ⟨need + w.tape w.drawn (.appendCap need sCap e) % (2 ^ 63 - need), Builtin.zeroCells z.cells (need + w.tape w.drawn (.appendCap need sCap e) % (2 ^ 63 - need) - need), Nat.le_add_right _ _, ?_, ?_⟩
  · simp only [Array.size_append, hs, Builtin.zeroCells, Array.size_map, Array.size_range, hzs, Nat.add_sub_cancel_left]
    rw [← Nat.add_mul]
  · have h1 : ¬ ((need : Int) > IntKind.i64.max) := by
      have : IntKind.i64.max = 2 ^ 63 - 1 := rfl
      omega
    have h2 : ¬ (Builtin.nextslicecap need sCap * f.bytes > 2 ^ 48) := by
      rw [hfb]
      have h3 := nextslicecap_le hc
      have h4 := Nat.mul_le_mul_right ie.bytes h3
      omega
    simp only [Sem.run_bind, hf, Result.andThen_ok, h1, false_and, if_false, Sem.run_pure, h2, run_choose, Question.forced, Bool.false_eq_true, hf2, run_askRoom, ho, hnw, hz]
    simp only [newRow, Sem.run_bind, run_newObj, Result.andThen_ok, Sem.run_pure, hcut]

theorem aGrow_sound (hT : TyOk P Ty) (hr : Rel h R w) (hn : R h.n = none) {e tag : TypeId} {ie : TI} (hie : Ty e = some ie) {need cap : Nat} {cs : List Value} {v : Value} {h' : H} (hg : aGrow h tag ie need cs = some (v, h'))
    {old new rest : Array Value} (hlr : LR R cs (old ++ new).toList) (hcap : need ≤ cap) (hs : (old ++ new ++ rest).size = cap * ie.size) :
    ∃ R', Step h R w h' R' { w with drawn := w.drawn + 1, heap := w.heap.push (.cells (old ++ new ++ rest) e) } ∧ VR R' v (.slice (some ⟨w.heap.size, 0, none⟩) need cap) ∧ Q h h' := by
  unfold aGrow at hg
  split at hg
  · cases hg
    have hr1 : Rel h R { w with drawn := w.drawn + 1 } := hr.drawn rfl
    obtain ⟨R', h1, h2, h3, h4⟩ := newRow_step' (P := P) hr1 hn e tag (vs := cs) (us := old ++ new ++ rest)
      (by have := hlr.1; simp at this; simp; omega)
      (fun i v hv => by
        have hi : i < (old ++ new).toList.length := by
          rw [← hlr.1]
          rcases Nat.lt_or_ge i cs.length with h | h
          · exact h
          · rw [List.getElem?_eq_none h] at hv; cases hv
        refine ⟨(old ++ new).toList[i], ?_, hlr.2 i v _ hv (List.getElem?_eq_getElem hi)⟩
        have hi2 : i < (old ++ new).size := by simpa using hi
        rw [Array.getElem?_append_left hi2, ← Array.getElem?_toList]
        exact List.getElem?_eq_getElem hi)
    refine ⟨R', (Step.world (w' := { w with drawn := w.drawn + 1 }) hr rfl rfl rfl rfl).trans h2, ?_, h4⟩
    have := VR.sliceU (R := R') h.n 0 need ie.size cap ⟨w.heap.size, 0, none⟩ _ h3 hcap (.inr ⟨by simp, by show 0 + 0 + cap * ie.size = (old ++ new ++ rest).size; rw [hs]; simp⟩)
    exact this
  · cases hg

def isIntT : TypeDesc → Bool
  | .int _ => true
  | _ => false
theorem isIntD_ok {d : TD} {D : TypeDesc} (h : d.ok D) : isIntD d = isIntT D := by
  cases d <;> cases D <;> simp_all [TD.ok, isIntD, isIntT]

/-- The tail of the model's append. -/
def appTail (e : TypeId) (base : Option Addr) (sLen sCap size : Nat) (zeros : Bool) (x : Value) (n : Nat) : Sem Value :=
  let appended : Sem (Array Value) :=
    if !zeros then Builtin.firstCells size n x
    else if n * size = 0 then pure #[]
    else do pure (Builtin.zeroCells (← zeroValue e).cells n)
  let need := sLen + n
  if need ≤ sCap then do
    let new ← appended
    if let some a := base then storeCells (a.add (sLen * size)) new.toList
    pure (.slice base need sCap)
  else do
    if (need : Int) > IntKind.i64.max ∧ (zeros ∨ (← typeInfo e).bytes = 0) then runtimePanic (.error "growslice: len out of range")
    if Builtin.nextslicecap need sCap * (← typeInfo e).bytes > 2 ^ 48 then (if zeros then runtimePanic (.error "growslice: len out of range") else do
      if !(← Builtin.mayShare size sLen n base x) then mark .noRoom
      unsupported (.resourceLimit "append: a slice or a string whose bytes no memory bears"))
    let newCap ← choose (.appendCap need sCap e)
    askRoom (newCap * (← typeInfo e).bytes)
    let old ← Builtin.firstCells size sLen (.slice base sLen sCap)
    let new ← appended
    let rest := Builtin.zeroCells (← zeroValue e).cells (newCap - need)
    pure (.slice (some (← newRow e (old ++ new ++ rest))) need newCap)

theorem append_eq (t0 t1 ty : TypeId) (base : Option Addr) (sLen sCap : Nat) (x : Value) : Builtin.append_ #[t0, t1] ty #[.slice base sLen sCap, x] = (do
    let .slice e ← underlying t0 | stuck "append: slice type expected"
    let size ← sizeOf e
    let zeros ← do pure ((← underlying t1) matches .int _)
    let n ← if zeros then do
        let l := IntKind.i64.wrap (← asInt x)
        if l < 0 then runtimePanic (.error "makeslice: len out of range")
        if l * (← typeInfo e).bytes > 2 ^ 48 then
          let made ← choose (.extern "append.ofMake.carriedOut" 2)
          runtimePanic (.error (if made == 1 then "makeslice: len out of range" else "growslice: len out of range"))
        pure l.toNat
      else Builtin.lenOf x
    appTail e base sLen sCap size zeros x n) := rfl

theorem append_front (hT : TyOk P Ty) {t0 t1 e : TypeId} {i0 i1 ie : TI} (h0 : Ty t0 = some i0) (hd : i0.d = .slice e) (h1 : Ty t1 = some i1) (hie : Ty e = some ie) (base : Option Addr) (sLen sCap n : Nat) (x : Value) (ty : TypeId)
    (hx : if isIntD i1.d then ∃ k m, x = .int k m ∧ 0 ≤ m ∧ m < 2 ^ 62 ∧ m * ie.bytes ≤ 2 ^ 48 ∧ n = m.toNat else (∀ w1 : World, (Builtin.lenOf x).run P w1 = .ok n w1)) :
    (Builtin.append_ #[t0, t1] ty #[.slice base sLen sCap, x]).run P w = (appTail e base sLen sCap ie.size (isIntD i1.d) x n).run P w := by
  obtain ⟨D, hD, hok⟩ := (hT t0 i0 h0).und
  rw [hd] at hok
  cases D <;> simp only [TD.ok] at hok
  subst hok
  obtain ⟨D1, hD1, hok1⟩ := (hT t1 i1 h1).und
  obtain ⟨f, hf, hfs, hfb⟩ := hT.typeInfo (w := w) hie
  have hm := isIntD_ok hok1
  rw [append_eq]
  cases hz : isIntD i1.d with
  | false =>
    rw [hz] at hx hm
    simp only [Bool.false_eq_true, if_false] at hx
    cases D1 <;> first
      | (simp [isIntT] at hm; done)
      | simp [run_underlying hD, run_underlying hD1, hT.sizeOf hie, hx]
  | true =>
    rw [hz] at hx hm
    simp only [if_true] at hx
    obtain ⟨k, m, rfl, b1, b2, b3, rfl⟩ := hx
    have wl : IntKind.i64.wrap m = m := wrap_i64 (by omega) (by omega)
    have c1 : ¬ m < 0 := by omega
    have c2' : ¬ (281474976710656 < m * (f.bytes : Int)) := by rw [hfb]; omega
    cases D1 <;> first
      | (simp [isIntT] at hm; done)
      | simp [run_underlying hD, run_underlying hD1, hT.sizeOf hie, asInt, asIntOf, wl, c1, hf, c2']

/-- In place. -/
theorem appTail_in {e : TypeId} {base : Option Addr} {sLen sCap size n : Nat} {zeros : Bool} {x : Value} {us : Array Value} {w' : World} (hc : sLen + n ≤ sCap)
    (h1 : zeros = false → (Builtin.firstCells size n x).run P w = .ok us w) (h2 : zeros = true → ∃ z, (zeroValue e).run P w = .ok z w ∧ us = Builtin.zeroCells z.cells n) (hs : us.size = n * size)
    (hst : match base with | some a => (storeCells (a.add (sLen * size)) us.toList).run P w = .ok () w' | none => w' = w) :
    (appTail e base sLen sCap size zeros x n).run P w = .ok (.slice base (sLen + n) sCap) w' := by
  have ha : (if !zeros then Builtin.firstCells size n x else if n * size = 0 then pure #[] else do pure (Builtin.zeroCells (← zeroValue e).cells n) : Sem (Array Value)).run P w = .ok us w := by
    cases zeros with
    | false => simpa using h1 rfl
    | true =>
      obtain ⟨z, hz, rfl⟩ := h2 rfl
      by_cases h0 : n * size = 0
      · have : Builtin.zeroCells z.cells n = #[] := Array.eq_empty_of_size_eq_zero (by rw [hs, h0])
        simp [h0, this]
      · simp only [Bool.not_true, Bool.false_eq_true, if_false, h0, Sem.run_bind, hz, Result.andThen_ok, Sem.run_pure]
  unfold appTail
  simp only [hc, if_true, Sem.run_bind, ha, Result.andThen_ok]
  cases base with
  | none => simp only at hst; subst hst; simp
  | some a => simp only at hst; simp [hst]

/-- Into a new row. -/
theorem appTail_grow (hT : TyOk P Ty) {e : TypeId} {ie : TI} (hie : Ty e = some ie) {base : Option Addr} {sLen sCap n : Nat} {zeros : Bool} {x : Value} {old us : Array Value} (hc : sCap < sLen + n)
    (hb : (2 * (sLen + n) + 192) * ie.bytes ≤ 2 ^ 48) (hn : sLen + n < 2 ^ 62)
    (h1 : zeros = false → (Builtin.firstCells ie.size n x).run P { w with drawn := w.drawn + 1 } = .ok us { w with drawn := w.drawn + 1 })
    (h2 : zeros = true → ∃ z, (zeroValue e).run P { w with drawn := w.drawn + 1 } = .ok z { w with drawn := w.drawn + 1 } ∧ us = Builtin.zeroCells z.cells n) (hs : us.size = n * ie.size)
    (ho : (Builtin.firstCells ie.size sLen (.slice base sLen sCap)).run P { w with drawn := w.drawn + 1 } = .ok old { w with drawn := w.drawn + 1 }) (hos : old.size = sLen * ie.size) :
    ∃ (cap : Nat) (rest : Array Value), sLen + n ≤ cap ∧ (old ++ us ++ rest).size = cap * ie.size ∧ (appTail e base sLen sCap ie.size zeros x n).run P w =
      .ok (.slice (some ⟨w.heap.size, 0, none⟩) (sLen + n) cap) { w with drawn := w.drawn + 1, heap := w.heap.push (.cells (old ++ us ++ rest) e) } := by
  have ha : (if !zeros then Builtin.firstCells ie.size n x else if n * ie.size = 0 then pure #[] else do pure (Builtin.zeroCells (← zeroValue e).cells n) : Sem (Array Value)).run P { w with drawn := w.drawn + 1 } = .ok us { w with drawn := w.drawn + 1 } := by
    cases zeros with
    | false => simpa using h1 rfl
    | true =>
      obtain ⟨z, hz, rfl⟩ := h2 rfl
      by_cases h0 : n * ie.size = 0
      · have : Builtin.zeroCells z.cells n = #[] := Array.eq_empty_of_size_eq_zero (by rw [hs, h0])
        simp [h0, this]
      · simp only [Bool.not_true, Bool.false_eq_true, if_false, h0, Sem.run_bind, hz, Result.andThen_ok, Sem.run_pure]
  obtain ⟨cap, rest, g1, g2, g3⟩ := grow_run (P := P) hT hie w sCap (sLen + n) hc hb hn _ _ old us ho ha (by rw [hs, hos, Nat.add_mul]) sLen n base x zeros
  refine ⟨cap, rest, g1, g2, ?_⟩
  unfold appTail
  have hc' : ¬ sLen + n ≤ sCap := by omega
  simp only [hc', if_false]
  exact g3
end
end
end Go.Ab
