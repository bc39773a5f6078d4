/- A quick machine: the frame as a trie. What it gives, the machine gives. Conditions: none. -/
import Derived.Test.YtcgoamfjpnkiiaaGreatAbV
set_option linter.all false
namespace Go.Ab
noncomputable section
open Go.RowKit

def toL (n : Nat) (fr : Tr Value) : List Value := (List.range n).map fun i => (fr.get i).getD undefA

/-- A frame holds slots below n alone, and nothing that is not known. -/
def FrOk (n : Nat) (fr : Tr Value) : Prop := ∀ t v, fr.get t = some v → t < n ∧ isUndef v = false

def evalF (fr : Tr Value) : Operand → Option Value
  | .tmp t => fr.get t
  | .const v => cond (closedB v) (some v) none
  | .global _ => none
  | .func f => some (.func (.func f) #[] #[])

theorem isUndef_eq {v : Value} (h : isUndef v = true) : v = undefA := by
  unfold isUndef at h
  split at h
  · rename_i vs
    split at h
    · rename_i us hus
      have : us = #[] := Array.isEmpty_iff.1 h
      subst this
      have : vs = #[.tuple #[]] := Array.toList_inj.1 hus
      rw [this]; rfl
    · cases h
  · cases h

theorem toL_get {n : Nat} {fr : Tr Value} {t : Nat} : (toL n fr)[t]? = if t < n then some ((fr.get t).getD undefA) else none := by
  unfold toL
  rw [List.getElem?_map]
  by_cases h : t < n
  · rw [if_pos h, List.getElem?_range h]; rfl
  · rw [if_neg h, List.getElem?_eq_none (by simpa using h)]; rfl

theorem toL_length {n : Nat} {fr : Tr Value} : (toL n fr).length = n := by simp [toL]

theorem evalF_eq {n : Nat} {fr : Tr Value} (ok : FrOk n fr) (x : Operand) : evalT (toL n fr) x = evalF fr x := by
  cases x with
  | tmp t =>
    simp only [evalT, evalF, toL_get]
    cases hg : fr.get t with
    | none =>
      by_cases h : t < n
      · rw [if_pos h]; rfl
      · rw [if_neg h]
    | some v =>
      obtain ⟨h, hu⟩ := ok t v hg
      rw [if_pos h]
      show cond (isUndef v) none (some v) = _
      rw [hu]; rfl
  | _ => rfl

def putFr (n : Nat) (fr : Tr Value) (dst : Option Tmp) (v : Value) : Tr Value :=
  match dst with
  | some d => cond (Nat.blt d n) (fr.put d (cond (isUndef v) none (some v))) fr
  | none => fr

theorem putFr_ok {n : Nat} {fr : Tr Value} (ok : FrOk n fr) (dst : Option Tmp) (v : Value) : FrOk n (putFr n fr dst v) := by
  cases dst with
  | none => exact ok
  | some d =>
    simp only [putFr]
    cases hb : Nat.blt d n with
    | false => exact ok
    | true =>
      intro t u ht
      rw [cond_true, Tr.get_put] at ht
      split at ht
      · rename_i e
        subst e
        cases hu : isUndef v with
        | true => rw [hu] at ht; cases ht
        | false => rw [hu] at ht; cases ht; exact ⟨blt_true hb, hu⟩
      · exact ok t u ht

theorem putFr_eq {n : Nat} {fr : Tr Value} (dst : Option Tmp) (v : Value) : toL n (putFr n fr dst v) = putT (toL n fr) dst v := by
  cases dst with
  | none => rfl
  | some d =>
    simp only [putFr, putT]
    apply List.ext_getElem?
    intro t
    rw [List.getElem?_set, toL_get, toL_get, toL_length]
    cases hb : Nat.blt d n with
    | false =>
      have hd : ¬ d < n := fun h => by rw [show Nat.blt d n = true from Nat.ble_eq_true_of_le h] at hb; cases hb
      rw [cond_false]
      by_cases e : d = t
      · subst e; rw [if_pos rfl, if_neg hd, if_neg hd]
      · rw [if_neg e]
    | true =>
      have hd := blt_true hb
      rw [cond_true, Tr.get_put]
      by_cases e : d = t
      · subst e
        rw [if_pos rfl, if_pos hd, if_pos rfl, if_pos hd]
        cases hu : isUndef v with
        | true => rw [isUndef_eq hu]; rfl
        | false => rfl
      · rw [if_neg e, if_neg (fun h : t = d => e h.symm)]

def wantFr (ops : List Oper) (o : Oper) (fr : Tr Value) : Option Bool :=
  match o.guard with
  | none => some true
  | some (j, want) => match Fast.get ops j with
    | none => none
    | some p => match p.dst with
      | none => none
      | some d => match fr.get d with
        | some (.bool b) => some (b == want)
        | some (.tuple vs) => cond vs.isEmpty (some false) none
        | _ => none

theorem wantFr_eq {n : Nat} {fr : Tr Value} {ops : Array Oper} {o : Oper} {b : Bool} (ok : FrOk n fr) (h : wantFr ops.toList o fr = some b) : wantT ops o (toL n fr) = some b := by
  unfold wantFr at h
  unfold wantT
  cases hg : o.guard with
  | none => rw [hg] at h; exact h
  | some p =>
    obtain ⟨j, want⟩ := p
    rw [hg] at h
    simp only [Fast.get_eq, Array.getElem?_toList] at h ⊢
    cases hj : ops[j]? with
    | none => rw [hj] at h; cases h
    | some p =>
      rw [hj] at h
      simp only [Option.bind_some] at h ⊢
      cases hd : p.dst with
      | none => rw [hd] at h; cases h
      | some d =>
        rw [hd] at h
        simp only at h ⊢
        cases hv : fr.get d with
        | none => rw [hv] at h; cases h
        | some v =>
          rw [hv] at h
          rw [toL_get, if_pos (ok d v hv).1, hv]
          exact h

def evOpsF (Ty : Types) (F : FunT) (n : Nat) (ops : List Oper) : List Oper → Tr Value → H → Option (Tr Value × H)
  | [], fr, h => some (fr, h)
  | o :: rest, fr, h => match wantFr ops o fr with
    | some true => match aOp Ty F (evalF fr) o.op h with
      | some (v, h') => evOpsF Ty F n ops rest (putFr n fr o.dst v) h'
      | none => none
    | some false => evOpsF Ty F n ops rest (putFr n fr o.dst skipA) h
    | none => none

theorem evOpsF_eq {Ty : Types} {F : FunT} {n : Nat} {ops : Array Oper} : ∀ (l : List Oper) (fr fr' : Tr Value) (h h' : H), FrOk n fr → evOpsF Ty F n ops.toList l fr h = some (fr', h') →
    FrOk n fr' ∧ evOps Ty F ops l (toL n fr) h = some (toL n fr', h')
  | [], fr, fr', h, h', ok, he => by simp only [evOpsF, Option.some.injEq, Prod.mk.injEq] at he; obtain ⟨rfl, rfl⟩ := he; exact ⟨ok, rfl⟩
  | o :: l, fr, fr', h, h', ok, he => by
    simp only [evOpsF] at he
    simp only [evOps]
    split at he
    · rename_i hw
      rw [wantFr_eq ok hw]
      simp only
      rw [show evalT (toL n fr) = evalF fr from funext (evalF_eq ok)]
      split at he
      · rename_i v h1 ho
        rw [ho]
        simp only
        rw [← putFr_eq]
        exact evOpsF_eq l _ _ _ _ (putFr_ok ok _ _) he
      · cases he
    · rename_i hw
      rw [wantFr_eq ok hw]
      simp only
      rw [← putFr_eq]
      exact evOpsF_eq l _ _ _ _ (putFr_ok ok _ _) he
    · cases he

def evalRF (reads : List Nat) (fr : Tr Value) : Operand → Option Value
  | .tmp t => cond (reads.contains t) (fr.get t) none
  | x => evalF fr x

theorem evalRF_eq {n : Nat} {fr : Tr Value} (ok : FrOk n fr) (reads : List Nat) : evalR reads (toL n fr) = evalRF reads fr := by
  funext x
  cases x with
  | tmp t =>
    simp only [evalR, evalRF]
    rw [evalF_eq ok]; rfl
  | const v => exact evalF_eq ok (.const v)
  | global g => rfl
  | func f => rfl

def drawEvF (Ty : Types) (F : FunT) (n : Nat) (ops : Array Oper) : List Oper → List Rec → Tr Value → H → Option (Tr Value × H)
  | [], _, fr, h => some (fr, h)
  | o :: rest, rs, fr, h => match maskL rs o.after.toList, wantFr ops.toList o fr with
    | some m, some false => cond (dstIn o.dst n && apartAll m (readsOf ops o) o.dst (some []) false [] rs 0)
        (drawEvF Ty F n ops rest (rs ++ [{ mask := m, reads := readsOf ops o, dst := o.dst, val := skipA, dom := some [], cut := [], wr := false, lo := h.n, hi := h.n, hin := emptyH h.n, hout := emptyH h.n, want := false, ts := toL n fr, o := o }])
          (putFr n fr o.dst skipA) h) none
    | some m, some true =>
      match domOf (evalRF (readsOf ops o) fr) o.op with
      | some ids => cond (ids.all fun id => Nat.blt id h.n) (match aOp Ty F (evalRF (readsOf ops o) fr) o.op (copyIds (emptyH h.n) h ids) with
        | some (v, h1) => cond (dstIn o.dst n && apartAll m (readsOf ops o) o.dst (some ids) (!Nat.beq h1.lw h.n) [] rs 0)
          (drawEvF Ty F n ops rest (rs ++ [{ mask := m, reads := readsOf ops o, dst := o.dst, val := v, dom := some ids, cut := [], wr := !Nat.beq h1.lw h.n, lo := h.n, hi := h1.n, hin := copyIds (emptyH h.n) h ids, hout := h1, want := true, ts := toL n fr, o := o }])
            (putFr n fr o.dst v) { copyIds h h1 (ids ++ List.range' h.n (h1.n - h.n)) with n := h1.n, lw := min h.lw h1.lw }) none
        | none => none) none
      | none => match aOp Ty F (evalRF (readsOf ops o) fr) o.op { copyIds h (emptyH h.n) (idsOf (cutOf m rs 0)) with lw := h.n } with
        | some (v, h1) => cond (dstIn o.dst n && apartAll m (readsOf ops o) o.dst none (!Nat.beq h1.lw h.n) (keptOf h h1 (List.range h.n)) rs 0)
          (drawEvF Ty F n ops rest (rs ++ [{ mask := m, reads := readsOf ops o, dst := o.dst, val := v, dom := none, cut := cutOf m rs 0, wr := !Nat.beq h1.lw h.n, lo := h.n, hi := h1.n, hin := { copyIds h (emptyH h.n) (idsOf (cutOf m rs 0)) with lw := h.n }, hout := h1, want := true, ts := toL n fr, o := o, kept := keptOf h h1 (List.range h.n) }])
            (putFr n fr o.dst v) { copyIds h1 h (idsOf (cutOf m rs 0)) with n := h1.n, lw := min h.lw h1.lw }) none
        | none => none
    | _, _ => none

theorem drawEvF_eq {Ty : Types} {F : FunT} {n : Nat} {ops : Array Oper} : ∀ (l : List Oper) (rs : List Rec) (fr fr' : Tr Value) (h h' : H), FrOk n fr → drawEvF Ty F n ops l rs fr h = some (fr', h') →
    FrOk n fr' ∧ ∃ rs', drawEv Ty F ops l rs (toL n fr) h = some (rs', toL n fr', h')
  | [], rs, fr, fr', h, h', ok, he => by simp only [drawEvF, Option.some.injEq, Prod.mk.injEq] at he; obtain ⟨rfl, rfl⟩ := he; exact ⟨ok, rs, rfl⟩
  | o :: l, rs, fr, fr', h, h', ok, he => by
    simp only [drawEvF] at he
    simp only [drawEv]
    rw [evalRF_eq ok, toL_length]
    split at he
    · rename_i m hm hw
      rw [hm, wantFr_eq ok hw]
      simp only
      rcases condQ he with ⟨hb, he⟩ | ⟨_, he⟩
      · rw [hb, cond_true, ← putFr_eq]
        exact drawEvF_eq l _ _ _ _ _ (putFr_ok ok _ _) he
      · cases he
    · rename_i m hm hw
      rw [hm, wantFr_eq ok hw]
      simp only
      split at he
      · rename_i ids hd
        rw [hd]
        simp only
        rcases condQ he with ⟨hb, he⟩ | ⟨_, he⟩
        · rw [hb, cond_true]
          split at he
          · rename_i v h1 ho
            rw [ho]
            simp only
            rcases condQ he with ⟨hb, he⟩ | ⟨_, he⟩
            · rw [hb, cond_true, ← putFr_eq]
              exact drawEvF_eq l _ _ _ _ _ (putFr_ok ok _ _) he
            · cases he
          · cases he
        · cases he
      · rename_i hd
        rw [hd]
        simp only
        split at he
        · rename_i v h1 ho
          rw [ho]
          simp only
          rcases condQ he with ⟨hb, he⟩ | ⟨_, he⟩
          · rw [hb, cond_true, ← putFr_eq]
            exact drawEvF_eq l _ _ _ _ _ (putFr_ok ok _ _) he
          · cases he
        · cases he
    · cases he

abbrev StaF := Tr Value × H

def loopNF (step : StaF → Option (AOut × StaF)) : Nat → StaF → Option (AOut × StaF)
  | 0, _ => none
  | n + 1, s => match step s with
    | some (.normal, s') => loopNF step n s'
    | r => r

def scopeNF (run : Code → StaF → Option (AOut × StaF)) (body : Code) : Nat → Code → StaF → Option (AOut × StaF)
  | 0, _, _ => none
  | n + 1, cur, s => match run cur s with
    | some (.goto l, s') => match findLabel body l with
      | some rest => scopeNF run body n rest s'
      | none => some (.goto l, s')
    | r => r

def evCF (Ty : Types) (F : FunT) (n N : Nat) : Nat → Code → StaF → Option (AOut × StaF)
  | 0, _, _ => none
  | f + 1, c, s => match c with
    | .skip | .label _ => some (.normal, s)
    | .ret => some (.ret, s)
    | .exit id => some (.exit id, s)
    | .goto l => some (.goto l, s)
    | .region _ ops false => match evOpsF Ty F n ops.toList ops.toList s.1 s.2 with
      | some s' => some (.normal, s')
      | none => none
    | .region _ ops true => match drawEvF Ty F n ops ops.toList [] s.1 s.2 with
      | some s' => some (.normal, s')
      | none => none
    | .seq a b => match evCF Ty F n N f a s with
      | some (.normal, s') => evCF Ty F n N f b s'
      | r => r
    | .cond c t e => match evalF s.1 c with
      | some (.bool b) => evCF Ty F n N f (cond b t e) s
      | _ => none
    | .block id c => match evCF Ty F n N f c s with
      | some (.exit id', s') => cond (Nat.beq id' id) (some (.normal, s')) (some (.exit id', s'))
      | r => r
    | .loop c => loopNF (evCF Ty F n N f c) N s
    | .scope c => scopeNF (evCF Ty F n N f) c N c s
    | _ => none

abbrev noAnn : Ann := fun _ => []
theorem mask_nil (s : Sta) : maskS [] s = s := rfl

theorem loopNF_eq {n : Nat} {step : StaF → Option (AOut × StaF)} {step' : Sta → Option (AOut × Sta)} (hs : ∀ s o s', FrOk n s.1 → step s = some (o, s') → FrOk n s'.1 ∧ step' (toL n s.1, s.2) = some (o, (toL n s'.1, s'.2))) :
    ∀ (k : Nat) (s : StaF) (o : AOut) (s' : StaF), FrOk n s.1 → loopNF step k s = some (o, s') → FrOk n s'.1 ∧ loopN step' [] k (toL n s.1, s.2) = some (o, (toL n s'.1, s'.2))
  | 0, s, o, s', _, h => by cases h
  | k + 1, s, o, s', ok, h => by
    simp only [loopNF] at h
    simp only [loopN, mask_nil]
    cases hst : step s with
    | none => rw [hst] at h; cases h
    | some p =>
      obtain ⟨o1, s1⟩ := p
      obtain ⟨ok1, h1⟩ := hs s o1 s1 ok hst
      rw [hst] at h
      rw [h1]
      cases o1 with
      | normal => exact loopNF_eq hs k s1 o s' ok1 h
      | _ => cases h; exact ⟨ok1, rfl⟩

theorem scopeNF_eq {n : Nat} {run : Code → StaF → Option (AOut × StaF)} {run' : Code → Sta → Option (AOut × Sta)} {body : Code} (hs : ∀ c s o s', FrOk n s.1 → run c s = some (o, s') → FrOk n s'.1 ∧ run' c (toL n s.1, s.2) = some (o, (toL n s'.1, s'.2))) :
    ∀ (k : Nat) (cur : Code) (s : StaF) (o : AOut) (s' : StaF), FrOk n s.1 → scopeNF run body k cur s = some (o, s') → FrOk n s'.1 ∧ scopeN run' noAnn body k cur (toL n s.1, s.2) = some (o, (toL n s'.1, s'.2))
  | 0, cur, s, o, s', _, h => by cases h
  | k + 1, cur, s, o, s', ok, h => by
    simp only [scopeNF] at h
    simp only [scopeN]
    cases hst : run cur s with
    | none => rw [hst] at h; cases h
    | some p =>
      obtain ⟨o1, s1⟩ := p
      obtain ⟨ok1, h1⟩ := hs cur s o1 s1 ok hst
      rw [hst] at h
      rw [h1]
      cases o1 with
      | goto l =>
        simp only at h ⊢
        cases hf : findLabel body l with
        | none => rw [hf] at h; cases h; exact ⟨ok1, rfl⟩
        | some rest => rw [hf] at h; exact scopeNF_eq hs k rest s1 o s' ok1 h
      | _ => cases h; exact ⟨ok1, rfl⟩

theorem evCF_eq {Ty : Types} {F : FunT} {n N : Nat} : ∀ (f : Nat) (c : Code) (s : StaF) (o : AOut) (s' : StaF), FrOk n s.1 → evCF Ty F n N f c s = some (o, s') →
    FrOk n s'.1 ∧ evC Ty F (drawA Ty F) noAnn N f c (toL n s.1, s.2) = some (o, (toL n s'.1, s'.2))
  | 0, c, s, o, s', _, h => by cases h
  | f + 1, c, s, o, s', ok, h => by
    cases c with
    | skip => simp only [evCF, Option.some.injEq, Prod.mk.injEq] at h; obtain ⟨rfl, rfl⟩ := h; exact ⟨ok, rfl⟩
    | label l => simp only [evCF, Option.some.injEq, Prod.mk.injEq] at h; obtain ⟨rfl, rfl⟩ := h; exact ⟨ok, rfl⟩
    | ret => simp only [evCF, Option.some.injEq, Prod.mk.injEq] at h; obtain ⟨rfl, rfl⟩ := h; exact ⟨ok, rfl⟩
    | exit id => simp only [evCF, Option.some.injEq, Prod.mk.injEq] at h; obtain ⟨rfl, rfl⟩ := h; exact ⟨ok, rfl⟩
    | goto l => simp only [evCF, Option.some.injEq, Prod.mk.injEq] at h; obtain ⟨rfl, rfl⟩ := h; exact ⟨ok, rfl⟩
    | region id ops drawn =>
      cases drawn with
      | false =>
        simp only [evCF] at h
        simp only [evC]
        split at h
        · rename_i s1 hs
          cases h
          obtain ⟨a, b⟩ := evOpsF_eq _ _ _ _ _ ok hs
          rw [b]; exact ⟨a, rfl⟩
        · cases h
      | true =>
        simp only [evCF] at h
        simp only [evC, drawA]
        split at h
        · rename_i s1 hs
          cases h
          obtain ⟨a, rs', b⟩ := drawEvF_eq _ _ _ _ _ _ ok hs
          rw [b]; exact ⟨a, rfl⟩
        · cases h
    | seq a b =>
      simp only [evCF] at h
      simp only [evC]
      cases ha : evCF Ty F n N f a s with
      | none => rw [ha] at h; cases h
      | some p =>
        obtain ⟨o1, s1⟩ := p
        obtain ⟨ok1, h1⟩ := evCF_eq f a s o1 s1 ok ha
        rw [ha] at h
        rw [h1]
        cases o1 with
        | normal => exact evCF_eq f b s1 o s' ok1 h
        | _ => cases h; exact ⟨ok1, rfl⟩
    | cond c t e =>
      simp only [evCF] at h
      simp only [evC]
      rw [evalF_eq ok]
      split at h
      · rename_i b hb
        rw [hb]
        exact evCF_eq f _ s o s' ok h
      · cases h
    | block id c =>
      simp only [evCF] at h
      simp only [evC]
      cases ha : evCF Ty F n N f c s with
      | none => rw [ha] at h; cases h
      | some p =>
        obtain ⟨o1, s1⟩ := p
        obtain ⟨ok1, h1⟩ := evCF_eq f c s o1 s1 ok ha
        rw [ha] at h
        rw [h1]
        cases o1 with
        | exit id' =>
          simp only at h ⊢
          cases hb : Nat.beq id' id with
          | true => rw [hb] at h; cases h; exact ⟨ok1, rfl⟩
          | false => rw [hb] at h; cases h; exact ⟨ok1, rfl⟩
        | _ => cases h; exact ⟨ok1, rfl⟩
    | loop c =>
      simp only [evCF] at h
      simp only [evC]
      exact loopNF_eq (fun s o s' ok h => evCF_eq f c s o s' ok h) N s o s' ok h
    | scope c =>
      simp only [evCF] at h
      simp only [evC]
      exact scopeNF_eq (fun c s o s' ok h => evCF_eq f c s o s' ok h) N c s o s' ok h
    | _ => simp [evCF] at h

/-- A frame of arguments. -/
def frArgs (n : Nat) : List Value → Nat → Tr Value → Tr Value
  | [], _, fr => fr
  | v :: vs, i, fr => frArgs n vs (i + 1) (putFr n fr (some i) v)

theorem frArgs_ok {n : Nat} : ∀ (vs : List Value) (i : Nat) (fr : Tr Value), FrOk n fr → FrOk n (frArgs n vs i fr)
  | [], _, _, ok => ok
  | v :: vs, i, fr, ok => frArgs_ok vs (i + 1) _ (putFr_ok ok _ _)

theorem frArgs_eq {n : Nat} : ∀ (vs : List Value) (i : Nat) (fr : Tr Value) (t : Nat), (toL n (frArgs n vs i fr))[t]? = if i ≤ t ∧ t < i + vs.length ∧ t < n then vs[t - i]? else (toL n fr)[t]?
  | [], i, fr, t => by
    rw [if_neg (by simp; omega)]; rfl
  | v :: vs, i, fr, t => by
    show (toL n (frArgs n vs (i + 1) (putFr n fr (some i) v)))[t]? = _
    rw [frArgs_eq vs (i + 1), putFr_eq]
    simp only [putT, List.getElem?_set, toL_length, List.length_cons]
    by_cases h1 : i + 1 ≤ t ∧ t < i + 1 + vs.length ∧ t < n
    · rw [if_pos h1, if_pos (by omega)]
      rw [show t - i = (t - (i + 1)) + 1 by omega, List.getElem?_cons_succ]
    · rw [if_neg h1]
      by_cases e : i = t
      · subst e
        rw [if_pos rfl]
        by_cases hn : i < n
        · rw [if_pos hn, if_pos (by omega)]; simp
        · rw [if_neg hn, if_neg (by omega), toL_get, if_neg hn]
      · rw [if_neg e, if_neg (by omega)]

def resAF (Ty : Types) (s : StaF) : ResultVar → Option Value
  | .tmp t => s.1.get t
  | .cell a t => match s.1.get a with
    | some x => aLoad Ty s.2 t x
    | none => none

def resLF (Ty : Types) (s : StaF) : List ResultVar → Option (List Value)
  | [] => some []
  | r :: rs => match resAF Ty s r, resLF Ty s rs with
    | some v, some vs => some (v :: vs)
    | _, _ => none

theorem resAF_eq {Ty : Types} {n : Nat} {s : StaF} (ok : FrOk n s.1) {r : ResultVar} {v : Value} (h : resAF Ty s r = some v) : resA Ty (toL n s.1, s.2) r = some v := by
  cases r with
  | tmp t =>
    simp only [resAF] at h
    obtain ⟨h1, h2⟩ := ok t v h
    simp only [resA, toL_get, if_pos h1, h, Option.getD_some, h2, cond_false]
  | cell a t =>
    simp only [resAF] at h
    cases hg : s.1.get a with
    | none => rw [hg] at h; cases h
    | some x =>
      rw [hg] at h
      obtain ⟨h1, h2⟩ := ok a x hg
      simp only [resA, toL_get, if_pos h1, hg, Option.getD_some]
      exact h

theorem resLF_eq {Ty : Types} {n : Nat} {s : StaF} (ok : FrOk n s.1) : ∀ {rs : List ResultVar} {vs : List Value}, resLF Ty s rs = some vs → resL Ty (toL n s.1, s.2) rs = some vs
  | [], vs, h => h
  | r :: rs, vs, h => by
    simp only [resLF] at h
    cases h1 : resAF Ty s r with
    | none => rw [h1] at h; cases h
    | some v =>
      cases h2 : resLF Ty s rs with
      | none => rw [h1, h2] at h; cases h
      | some us =>
        rw [h1, h2] at h
        simp only [resL, resAF_eq ok h1, resLF_eq ok h2]
        exact h

def retAF (Ty : Types) (fn : Func) (r : Option (AOut × StaF)) : Option (Value × H) :=
  match r with
  | some (.normal, s) => match resLF Ty s fn.results.toList with
    | some vs => some (packR vs, s.2)
    | none => none
  | some (.ret, s) => match resLF Ty s fn.results.toList with
    | some vs => some (packR vs, s.2)
    | none => none
  | _ => none

/-- A function by its text, on the quick machine. -/
def runFF (Ty : Types) (F : FunT) (N fuel : Nat) (fn : Func) : FunA := fun args h =>
  match fn.body with
  | some c => cond (Nat.ble (Fast.len args) fn.ntmps) (retAF Ty fn (evCF Ty F fn.ntmps N fuel c (frArgs fn.ntmps args 0 .leaf, h))) none
  | none => none

theorem frame_eq {fn : Func} {args : List Value} (h : args.length ≤ fn.ntmps) : toL fn.ntmps (frArgs fn.ntmps args 0 .leaf) = frameA fn args := by
  apply List.ext_getElem?
  intro t
  rw [frArgs_eq, toL_get]
  unfold frameA
  by_cases h1 : t < args.length
  · rw [if_pos (by omega), List.getElem?_append_left h1]; rfl
  · rw [if_neg (by omega), List.getElem?_append_right (by omega), List.getElem?_replicate]
    by_cases h2 : t < fn.ntmps
    · rw [if_pos h2, if_pos (by omega)]; rfl
    · rw [if_neg h2, if_neg (by omega)]

theorem runFF_eq {Ty : Types} {F : FunT} {N fuel : Nat} {fn : Func} {args : List Value} {h : H} {r : Value × H} (he : runFF Ty F N fuel fn args h = some r) : runF Ty F noAnn N fuel fn args h = some r := by
  unfold runFF at he
  unfold runF
  cases hb : fn.body with
  | none => rw [hb] at he; cases he
  | some c =>
    rw [hb] at he
    simp only at he ⊢
    rcases condQ he with ⟨hl, he⟩ | ⟨_, he⟩
    · rw [Fast.len_eq] at hl
      rw [← frame_eq (Nat.le_of_ble_eq_true hl)]
      have ok0 : FrOk fn.ntmps (frArgs fn.ntmps args 0 .leaf) := frArgs_ok _ _ _ fun t v h => by cases h
      unfold retAF at he
      split at he
      · rename_i s hs
        obtain ⟨ok, e⟩ := evCF_eq _ _ _ _ _ ok0 hs
        rw [e]
        unfold retA
        split at he
        · rename_i vs hv
          simp only [resLF_eq ok hv]
          exact he
        · cases he
      · rename_i s hs
        obtain ⟨ok, e⟩ := evCF_eq _ _ _ _ _ ok0 hs
        rw [e]
        unfold retA
        split at he
        · rename_i vs hv
          simp only [resLF_eq ok hv]
          exact he
        · cases he
      · cases he
    · cases he

theorem SoundF.of_imp {P : Program} {g : FuncId} {f f' : FunA} (hs : SoundF P g f) (hi : ∀ args h r, f' args h = some r → f args h = some r) : SoundF P g f' := fun args h v h' he => hs args h v h' (hi _ _ _ he)

/-- The functions of a table by their texts on the quick machine; some are given ('G'). -/
def deepTF (Ty : Types) (T : Tr Func) (N fuel : Nat) (G : FunT) (d : Nat) : FunT :=
  Nat.rec (motive := fun _ => FunT) G (fun _ ih k => match G k with
    | some f => some f
    | none => match T.get k with
      | some fn => some (runFF Ty ih N fuel fn)
      | none => none) d

theorem deepTF_sound {P : Program} {Ty : Types} (hT : TyOk P Ty) {T : Tr Func} (hK : FnOk P T) (hm : P.follows .mixedOrders = true) {N fuel : Nat} {G : FunT} (hG : SoundT P G) : ∀ d, SoundT P (deepTF Ty T N fuel G d)
  | 0 => hG
  | d + 1 => by
    intro k f hk
    change (match G k with
      | some f => some f
      | none => match T.get k with
        | some fn => some (runFF Ty (deepTF Ty T N fuel G d) N fuel fn)
        | none => none) = some f at hk
    cases hg : G k with
    | some f' => rw [hg] at hk; cases hk; exact hG k _ hg
    | none =>
      rw [hg] at hk
      cases hfn : T.get k with
      | none => rw [hfn] at hk; cases hk
      | some fn =>
        rw [hfn] at hk
        cases hk
        obtain ⟨h1, hb⟩ := hK k fn hfn
        rw [Bool.and_eq_true] at hb
        exact ⟨⟨fn, h1, hb.1, by simpa using hb.2⟩, (runF_sound hT (deepTF_sound hT hK hm hG d) hm h1).of_imp fun args h r => runFF_eq⟩
end
end Go.Ab
