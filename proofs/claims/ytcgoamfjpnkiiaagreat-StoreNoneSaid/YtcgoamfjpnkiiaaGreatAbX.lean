/- A machine in passing style: frames are gone when it runs over a closed text. Conditions: none. -/
import Derived.Test.YtcgoamfjpnkiiaaGreatAbW
set_option linter.all false
namespace Go.Ab
noncomputable section
open Go.RowKit

abbrev Rz := Option (Value × H)
abbrev FK := FuncId → List Value → H → Rz

/-! What a text becomes -/
def bV (o : Option Value) (k : Value → Rz) : Rz :=
  Option.rec (motive := fun _ => Rz) none (fun v => Bool.rec (motive := fun _ => Rz) (k v) none (isUndef v)) o
def bVH (o : Option (Value × H)) (k : Value → H → Rz) : Rz :=
  Option.rec (motive := fun _ => Rz) none (fun p => Bool.rec (motive := fun _ => Rz) (k p.1 p.2) none (isUndef p.1)) o
def bH (o : Option H) (k : H → Rz) : Rz := Option.rec (motive := fun _ => Rz) none k o
def pickK (g x y : Value) (k : Value → Rz) : Rz :=
  match g with
  | .bool t => k (cond t x y)
  | _ => none
def cdK (g : Value) (x y : Rz) : Rz :=
  match g with
  | .bool t => cond t x y
  | _ => none
def alK (e : TypeId) (i : TI) (h : H) (k : Value → H → Rz) : Rz := k (.pointer (some ⟨h.n, 0, none⟩)) (h.new (.cells i.zero e false))
def bxK (e : TypeId) (v : Value) (h : H) (k : Value → H → Rz) : Rz := k (.pointer (some ⟨h.n, 0, none⟩)) (h.new (.cells v.cells.toList e false))
def mmK (t : TypeId) (h : H) (k : Value → H → Rz) : Rz := k (.map (some h.n)) (h.new (.map [] 0 t))
def ldT (i : TI) (cs : List Value) (off : Nat) : Option Value := cond i.d.agg ((seg cs off i.size).map fun vs => .agg vs.toArray) (Fast.get cs off)
def ld (i : TI) (h : H) (x : Value) : Option Value :=
  match x with
  | .pointer (some ⟨id, off, none⟩) => match h.get id with
    | some (.cells cs _ _) => ldT i cs off
    | _ => none
  | _ => none
def st (i : TI) (h : H) (x v : Value) : Option H :=
  match x with
  | .pointer (some ⟨id, off, none⟩) => cond (Nat.beq v.cells.toList.length i.size) (h.write id off v.cells.toList) none
  | _ => none
def fa (fo : Nat) (x : Value) : Option Value :=
  match x with
  | .pointer (some ⟨id, off, none⟩) => some (.pointer (some ⟨id, off + fo, none⟩))
  | _ => none
def okArgs (vs : List Value) : Bool := vs.all fun v => !isUndef v
def dyK (F : FK) (f : Value) (vs : List Value) (h : H) (k : Value → H → Rz) : Rz :=
  match f with
  | .func (.func g) first captured => cond (okArgs first.toList && okArgs captured.toList) (bVH (F g (first.toList ++ vs ++ captured.toList) h) k) none
  | _ => none
def guardV (g : Value) (want : Bool) (op : (Value → H → Rz) → Rz) (h : H) (k : Value → H → Rz) : Rz :=
  match g with
  | .bool b => cond (b == want) (op k) (k skipA h)
  | .tuple vs => cond vs.isEmpty (k skipA h) none
  | _ => none
def guardE (g : Value) (want : Bool) (op : (H → Rz) → Rz) (h : H) (k : H → Rz) : Rz :=
  match g with
  | .bool b => cond (b == want) (op k) (k h)
  | .tuple vs => cond vs.isEmpty (k h) none
  | _ => none
def jn (A : Type) (j : A) (f : A → Rz) : Rz := f j
def lpK (A : Type) (z : A) (s : A → A) (n : Nat) : A := Nat.rec (motive := fun _ => A) z (fun _ ih => s ih) n
def lwK (h : H) (r : Rz) : Rz := cond (Nat.ble h.lw h.n) r none
def lw0 (h : H) : H := ⟨h.m, h.n, h.n⟩
def lwM (h h1 : H) : H := ⟨h1.m, h1.n, min h.lw h1.lw⟩
def idsV : List Value → List Nat
  | [] => []
  | v :: vs => (match v with
    | .pointer (some ⟨id, _, _⟩) => [id]
    | .map (some id) => [id]
    | .slice (some ⟨id, _, _⟩) _ _ => [id]
    | _ => []) ++ idsV vs
def apartR (l : List Nat) (rs : List (Nat × Nat)) : Bool := rs.all fun r => l.all fun id => Nat.blt id r.1 || Nat.ble r.2 id
/-- Are the objects of some values as they were? -/
def unK (h h1 : H) (ds : List Value) : Bool := cond (idsV ds).isEmpty true (Nat.beq h1.lw h.n || (idsV ds).all fun id => eqO (h1.get id) (h.get id))
def psK (h : H) (ds : List Value) (r : Rz) : Rz := cond ((idsV ds).all fun id => (h.get id).isSome && Nat.blt id h.n) r none
def ckK (ds : List Value) (rs us : List (H × H)) (es : List Value) (r : Rz) : Rz :=
  cond (apartR (idsV ds) (rs.map fun p => (p.1.n, p.2.n)) && (us.all (fun p => unK p.1 p.2 ds) && disj (idsV es) (idsV ds))) r none
/-- Objects made beside a call are not seen by it. -/
def cutL : List (H × H) → List (Nat × Nat)
  | [] => []
  | p :: ps => cond (Nat.beq p.1.n p.2.n) (cutL ps) ((p.1.n, p.2.n) :: cutL ps)
def cutH (h : H) (cs : List (H × H)) : H := ⟨(copyIds h (emptyH h.n) (idsOf (cutL cs))).m, h.n, h.n⟩
def bakH (h h1 : H) (cs : List (H × H)) : H := ⟨(copyIds h1 h (idsOf (cutL cs))).m, h1.n, min h.lw h1.lw⟩
def caC (o : Rz) (h : H) (ds : List Value) (cs : List (H × H)) (k : Value → H → H → Rz) : Rz := bVH o fun v h1 => cond (unK h h1 ds) (k v h1 (bakH h h1 cs)) none
def caD (o : Rz) (h : H) (ds : List Value) (k : Value → H → H → Rz) : Rz := bVH o fun v h1 => cond (unK h h1 ds) (k v h1 (lwM h h1)) none
def dyD (F : FK) (f : Value) (vs : List Value) (h : H) (ds : List Value) (k : Value → H → H → Rz) : Rz := dyK F f vs (lw0 h) fun v h1 => cond (unK h h1 ds) (k v h1 (lwM h h1)) none
def guardD (g : Value) (want : Bool) (op : (Value → H → H → Rz) → Rz) (h : H) (k : Value → H → H → Rz) : Rz :=
  match g with
  | .bool b => cond (b == want) (op k) (k skipA h h)
  | .tuple vs => cond vs.isEmpty (k skipA h h) none
  | _ => none

def cvK (Ty : Types) (src dst : TypeId) (a : Value) (h : H) : Rz :=
  match aConv Ty dst a with
  | some v => some (v, h)
  | none => aStrBytes Ty h src dst a
def cpK (Ty : Types) (h : H) (t : TypeId) (d s : Value) : Rz :=
  match s with
  | .string _ => none
  | _ => aCopy Ty h t d s

/-! The machine -/
abbrev oV {α β : Type} (o : Option α) (k : α → Option β) : Option β :=
  match o with
  | some v => k v
  | none => none

def putO (n : Nat) (fr : Tr Value) (dst : Option Tmp) (v : Option Value) : Tr Value :=
  match dst with
  | some d => cond (Nat.blt d n) (fr.put d v) fr
  | none => fr

def mvOf : Op → Option Operand
  | .move x | .assign x => some x
  | _ => none

def isEff : Op → Bool
  | .store .. | .mapUpdate .. | .insert .. | .entryStore .. => true
  | .call { callee := .builtin .clear, .. } => true
  | _ => false

def isNum : TD → Bool
  | .int _ | .float _ | .complex _ => true
  | _ => false

def argsK (ev : Operand → Option Value) : List Operand → Option (List Value)
  | [] => some []
  | x :: xs => match ev x with
    | some v => match argsK ev xs with
      | some vs => some (v :: vs)
      | none => none
    | none => none

/-- An operation that gives a value. -/
def opV (Ty : Types) (F : FK) (ev : Operand → Option Value) (op : Op) (h : H) (k : Value → H → Rz) : Rz :=
  match op with
  | .move x | .assign x => oV (ev x) fun v => k v h
  | .pick c a b => oV (ev c) fun g => oV (ev a) fun x => oV (ev b) fun y => pickK g x y fun v => k v h
  | .alloc e => oV (Ty e) fun i => alK e i h k
  | .box e x => oV (ev x) fun v => bxK e v h k
  | .build t parts => oV (aParts ev parts.toList) fun ps => bV (aBuild Ty t ps) fun v => k v h
  | .buildSlice t len parts => oV (aParts ev parts.toList) fun ps => bVH (aBuildSlice Ty h t len ps) k
  | .load t a => oV (ev a) fun x => oV (Ty t) fun i => bV (ld i h x) fun v => k v h
  | .nilCheck x => oV (ev x) fun v => bV (aNilCheck v) fun v => k v h
  | .binOp op t x y _ => oV (ev x) fun a => oV (ev y) fun b => bV (aBin Ty op t a b) fun v => k v h
  | .unOp op _ x => oV (ev x) fun a => bV (aUn op a) fun v => k v h
  | .convert src dst x => oV (ev x) fun a => oV (Ty src) fun _ => oV (Ty dst) fun i => match isNum i.d with
    | true => bV (aConv Ty dst a) fun v => k v h
    | false => bVH (cvK Ty src dst a h) k
  | .makeFunc fn first captured => oV (argsK ev first.toList) fun us => oV (argsK ev captured.toList) fun vs => k (.func fn us.toArray vs.toArray) h
  | .makeMap t r => match r with
    | none => mmK t h k
    | some _ => none
  | .makeSlice t l c => oV (ev l) fun a => oV (ev c) fun b => bVH (aMakeSlice Ty h t a b) k
  | .slice t x lo hi mx => oV (ev x) fun a => oV (aOpt ev lo) fun l => oV (aOpt ev hi) fun u => oV (aOpt ev mx) fun m => bV (aSlice Ty t a l u m) fun v => k v h
  | .fieldAddr t x f => oV (ev x) fun a => oV (Ty t) fun i => match i.d with
    | .struct fs => oV (fs[f]?) fun p => oV (Ty p.2) fun j => match Nat.beq j.size 0 with
      | true => none
      | false => bV (fa p.1 a) fun v => k v h
    | _ => none
  | .field t x f => oV (ev x) fun a => bV (aField Ty t a f) fun v => k v h
  | .indexAddr t x i => oV (ev x) fun a => oV (ev i) fun b => bV (aIndexAddr Ty t a b) fun v => k v h
  | .index t x i => oV (ev x) fun a => oV (ev i) fun b => bV (aIndex Ty t a b) fun v => k v h
  | .lookup t x i ok => oV (ev x) fun a => oV (ev i) fun b => bV (aLookup Ty h t a b ok) fun v => k v h
  | .mapEntry t m x => oV (ev m) fun a => oV (ev x) fun b => bVH (aMapEntry Ty h t a b) k
  | .range t x => oV (ev x) fun a => bVH (aRangeStr Ty h t a) k
  | .next it true => oV (ev it) fun a => bVH (aNextStr h a) k
  | .next it false => oV (ev it) fun a => bVH (aNextMap h a) k
  | .entry it => oV (ev it) fun a => bV (aEntry h a) fun v => k v h
  | .extract t i => oV (ev t) fun a => bV (aExtract a i) fun v => k v h
  | .call { callee := .builtin b, args, argTypes } => oV (argsK ev args.toList) fun vs => match b, argTypes.toList, vs with
    | .append, [t0, t1], [s, x] => bVH (aAppend Ty h t0 t1 s x) k
    | .copy, [t0, _], [d, s] => bVH (cpK Ty h t0 d s) k
    | .len, [t], [x] => bV (aLen Ty h t x) fun v => k v h
    | .cap, [t], [x] => bV (aCap Ty t x) fun v => k v h
    | .complex, _, [x, y] => bV (aComplex x y) fun v => k v h
    | .real, _, [x] => bV (aReal x) fun v => k v h
    | .imag, _, [x] => bV (aImag x) fun v => k v h
    | .min, _, [x, y] => bV (aMin2 x y) fun v => k v h
    | .max, _, [x, y] => bV (aMax2 x y) fun v => k v h
    | _, _, _ => none
  | .call { callee := .value (.func g), args, .. } => oV (argsK ev args.toList) fun vs => bVH (F g vs h) k
  | .call { callee := .value f, args, .. } => oV (ev f) fun g => oV (argsK ev args.toList) fun vs => dyK F g vs h k
  | _ => none

/-- An operation that gives none. -/
def opE (Ty : Types) (ev : Operand → Option Value) (op : Op) (h : H) (k : H → Rz) : Rz :=
  match op with
  | .store t a x => oV (ev a) fun p => oV (ev x) fun v => oV (Ty t) fun i => bH (st i h p v) k
  | .mapUpdate t m x y | .insert t m x y => oV (ev m) fun a => oV (ev x) fun b => oV (ev y) fun c => bH (aMapUpdate Ty h t a b c) k
  | .entryStore _ m s x => oV (ev m) fun a => oV (ev s) fun b => oV (ev x) fun c => bH (aEntryStore h a b c) k
  | .call { callee := .builtin .clear, args, argTypes } => oV (argsK ev args.toList) fun vs => match argTypes.toList, vs with
    | [t], [x] => bH (aClear Ty h t x) k
    | _, _ => none
  | _ => none

def gVal (ops : List Oper) (fr : Tr Value) (j : Nat) : Option Value :=
  match Fast.get ops j with
  | none => none
  | some p => match p.dst with
    | none => none
    | some d => fr.get d

def evOpsK (Ty : Types) (F : FK) (n : Nat) (ops : List Oper) : List Oper → Tr Value → H → (Tr Value → H → Rz) → Rz
  | [], fr, h, κ => κ fr h
  | o :: rest, fr, h, κ => match o.guard with
    | none => match mvOf o.op with
      | some x => evOpsK Ty F n ops rest (putO n fr o.dst (evalF fr x)) h κ
      | none => match isEff o.op with
        | true => opE Ty (evalF fr) o.op h fun h' => evOpsK Ty F n ops rest (putO n fr o.dst none) h' κ
        | false => opV Ty F (evalF fr) o.op h fun v h' => evOpsK Ty F n ops rest (putO n fr o.dst (some v)) h' κ
    | some (j, want) => oV (gVal ops fr j) fun g => match isEff o.op with
      | true => guardE g want (opE Ty (evalF fr) o.op h) h fun h' => evOpsK Ty F n ops rest (putO n fr o.dst none) h' κ
      | false => guardV g want (opV Ty F (evalF fr) o.op h) h fun v h' => evOpsK Ty F n ops rest (putO n fr o.dst (some v)) h' κ

/-! Regions that draw their order: in the text's order, where unordered operations leave each other alone -/

/-- 0: computes; 1: makes objects; 2: reads; 3: writes; 4: a call; 5: any other. -/
def kindD (Ty : Types) : Op → Nat
  | .move _ | .assign _ | .pick .. | .build .. | .nilCheck _ | .binOp .. | .unOp .. | .makeFunc .. | .slice .. | .fieldAddr .. | .field .. | .indexAddr .. | .index .. | .extract .. => 0
  | .convert src dst _ => match Ty src, Ty dst with
    | some i, some j => cond (isNum j.d) 0 (match i.d, j.d with
      | .slice _, _ => 2
      | .string, .slice _ => 1
      | _, _ => 5)
    | _, _ => 5
  | .alloc _ | .box .. | .buildSlice .. | .makeSlice .. => 1
  | .makeMap _ r => match r with
    | none => 1
    | some _ => 5
  | .load .. | .lookup .. => 2
  | .store .. | .mapUpdate .. | .mapEntry .. | .entryStore .. => 3
  | .call { callee := .value _, .. } => 4
  | .call { callee := .builtin b, .. } => match b with
    | .len => 2
    | .append | .copy => 3
    | .cap | .complex | .real | .imag | .min | .max => 0
    | _ => 5
  | _ => 5

def domsK (Ty : Types) (ev : Operand → Option Value) : Op → Option (List Value)
  | .load _ x | .store _ x _ | .lookup _ x _ _ | .mapUpdate _ x _ _ | .mapEntry _ x _ | .entryStore _ x _ _ => oV (ev x) fun v => some [v]
  | .convert src _ x => oV (Ty src) fun i => match i.d with
    | .slice _ => oV (ev x) fun v => some [v]
    | _ => some []
  | .call { callee := .builtin .len, args, argTypes } => match argTypes.toList, args.toList with
    | [t], [x] => oV (Ty t) fun i => match i.d with
      | .map _ _ => oV (ev x) fun v => some [v]
      | .slice _ | .string => some []
      | _ => none
    | _, _ => none
  | .call { callee := .builtin .append, args, .. } | .call { callee := .builtin .copy, args, .. } => match args.toList with
    | [x, y] => oV (ev x) fun v => oV (ev y) fun w => some [v, w]
    | _ => none
  | _ => some []

structure Pl where
  mask : Nat
  kind : Nat
  reads : List Nat
  dst : Option Nat
  ql : List Nat
  ct : List Nat
  rg : List Nat
  un : List Nat
  dj : List Nat

/-- Masks of what is ordered ahead, by the edges alone. -/
def maskP (rs : List Pl) : List Edge → Option Nat
  | [] => some 0
  | e :: es => match maskP rs es with
    | none => none
    | some m => cond (Region.binds .any e) (match rs[e.on]? with
      | some r => some (m ||| 2 ^ e.on ||| r.mask)
      | none => none) (some m)

def slotP (r : Pl) (reads : List Nat) (dst : Option Nat) : Bool :=
  (match r.dst with
    | some d => !reads.contains d && (match dst with | some d' => !Nat.beq d d' | none => true)
    | none => true) &&
  (match dst with | some d => !r.reads.contains d | none => true)

/-- What an unordered pair owes: none: not covered; else some of: the call leaves what was read alone; the call does not see what was made; apart from what was made; what is read was left alone by the call; disjoint. -/
structure Pr where
  ql : Bool := false
  ct : Bool := false
  rg : Bool := false
  un : Bool := false
  dj : Bool := false
def pairP (i j : Nat) : Option Pr :=
  match i, j with
  | 0, 0 | 0, 1 | 0, 2 | 0, 3 | 0, 4 | 1, 0 | 2, 0 | 3, 0 | 4, 0 | 1, 1 | 2, 1 | 2, 2 | 4, 1 | 3, 1 => some {}
  | 1, 2 | 1, 3 => some { rg := true }
  | 2, 3 => some { dj := true }
  | 3, 2 | 3, 3 => some { rg := true, dj := true }
  | 1, 4 => some { ct := true }
  | 2, 4 => some { ql := true }
  | 4, 2 => some { rg := true, un := true }
  | _, _ => none

/-- The pairs of one operation with those ahead that are not ordered. -/
def pairsP (p : Pl) : List Pl → Nat → Option Pl
  | [], _ => some p
  | r :: rs, i => match pairsP p rs (i + 1) with
    | none => none
    | some q => match p.mask.testBit i with
      | true => some q
      | false => match slotP r p.reads p.dst, pairP r.kind p.kind with
        | true, some a => some { q with ql := cond a.ql (i :: q.ql) q.ql, ct := cond a.ct (i :: q.ct) q.ct, rg := cond a.rg (i :: q.rg) q.rg, un := cond a.un (i :: q.un) q.un, dj := cond a.dj (i :: q.dj) q.dj }
        | _, _ => none

def planL (Ty : Types) (n : Nat) (ops : Array Oper) : List Oper → List Pl → Option (List Pl)
  | [], rs => some rs
  | o :: rest, rs => match maskP rs o.after.toList, dstIn o.dst n with
    | some m, true => match pairsP ⟨m, kindD Ty o.op, readsOf ops o, o.dst, [], [], [], [], []⟩ rs 0 with
      | some q => match Nat.beq (kindD Ty o.op) 5 with
        | true => none
        | false => planL Ty n ops rest (rs ++ [q])
      | none => none
    | _, _ => none

/-- What is known of one that was done: the values by which it sees objects, the heap ahead and behind. -/
abbrev Dn := List Value × H × H

def heapsK (rs : List Dn) : List Nat → List (H × H)
  | [] => []
  | i :: is => match rs[i]? with
    | some (_, p) => p :: heapsK rs is
    | none => heapsK rs is
def valsK (rs : List Dn) : List Nat → List Value
  | [] => []
  | i :: is => match rs[i]? with
    | some (vs, _) => vs ++ valsK rs is
    | none => valsK rs is

def chkK (p : Pl) (rs : List Dn) (ds : List Value) (h : H) (r : Rz) : Rz :=
  match ds with
  | [] => r
  | ds => match p.rg, p.un, p.dj with
    | [], [], [] => psK h ds r
    | a, b, c => psK h ds (ckK ds (heapsK rs a) (heapsK rs b) (valsK rs c) r)

def isCall : Op → Option (Operand × List Operand)
  | .call { callee := .value f, args, .. } => some (f, args.toList)
  | _ => none

/-- A call in a drawn region. -/
def opCD (F : FK) (ev : Operand → Option Value) (p : Pl) (rs : List Dn) (f : Operand) (args : List Operand) (h : H) (k : Value → H → H → Rz) : Rz :=
  match f with
  | .func g => oV (argsK ev args) fun vs => match p.ct with
    | [] => caD (F g vs (lw0 h)) h (valsK rs p.ql) k
    | cs => caC (F g vs (cutH h (heapsK rs cs))) h (valsK rs p.ql) (heapsK rs cs) k
  | f => match p.ct with
    | [] => oV (ev f) fun g => oV (argsK ev args) fun vs => dyD F g vs h (valsK rs p.ql) k
    | _ => none

def evDrawK (Ty : Types) (F : FK) (n : Nat) (ops : List Oper) : List Oper → List Pl → List Dn → Tr Value → H → (Tr Value → H → Rz) → Rz
  | [], _, _, fr, h, κ => κ fr h
  | _ :: _, [], _, _, _, _ => none
  | o :: rest, p :: ps, rs, fr, h, κ => match isCall o.op with
    | some (f, args) => match o.guard with
      | none => opCD F (evalF fr) p rs f args h fun v h1 h' => evDrawK Ty F n ops rest ps (rs ++ [([], h, h1)]) (putO n fr o.dst (some v)) h' κ
      | some (j, want) => oV (gVal ops fr j) fun g => guardD g want (opCD F (evalF fr) p rs f args h) h fun v h1 h' => evDrawK Ty F n ops rest ps (rs ++ [([], h, h1)]) (putO n fr o.dst (some v)) h' κ
    | none => oV (domsK Ty (evalF fr) o.op) fun ds => match o.guard with
      | none => match mvOf o.op with
        | some x => evDrawK Ty F n ops rest ps (rs ++ [([], h, h)]) (putO n fr o.dst (evalF fr x)) h κ
        | none => match isEff o.op with
          | true => chkK p rs ds h (opE Ty (evalF fr) o.op h fun h' => evDrawK Ty F n ops rest ps (rs ++ [(ds, h, h')]) (putO n fr o.dst none) h' κ)
          | false => chkK p rs ds h (opV Ty F (evalF fr) o.op h fun v h' => evDrawK Ty F n ops rest ps (rs ++ [(ds, h, h')]) (putO n fr o.dst (some v)) h' κ)
      | some (j, want) => oV (gVal ops fr j) fun g => match isEff o.op with
        | true => guardE g want (fun k => chkK p rs ds h (opE Ty (evalF fr) o.op h k)) h fun h' => evDrawK Ty F n ops rest ps (rs ++ [(ds, h, h')]) (putO n fr o.dst none) h' κ
        | false => guardV g want (fun k => chkK p rs ds h (opV Ty F (evalF fr) o.op h k)) h fun v h' => evDrawK Ty F n ops rest ps (rs ++ [(ds, h, h')]) (putO n fr o.dst (some v)) h' κ

/-! Code -/
def FnV : Nat → Type
  | 0 => H → Rz
  | n + 1 => Value → FnV n

def absV : (l : List Nat) → (Tr Value → H → Rz) → Tr Value → FnV l.length
  | [], f, fr => fun h => f fr h
  | t :: l, f, fr => fun v => absV l f (fr.put t (some v))

def appV : (l : List Nat) → FnV l.length → Tr Value → H → Rz
  | [], f, _, h => f h
  | t :: l, f, fr, h => oV (fr.get t) fun v => appV l (f v) fr h

abbrev Lv := Nat → List Nat

def FnsV (lv : Lv) : List Nat → Type
  | [] => Unit
  | l :: ls => FnV (lv (1000000 + l)).length × FnsV lv ls

def mkGo (lv : Lv) : (ls : List Nat) → (Nat → Tr Value → H → Rz) → FnsV lv ls
  | [], _ => ()
  | l :: ls, f => (absV (lv (1000000 + l)) (f l) .leaf, mkGo lv ls f)

def goK (lv : Lv) : (ls : List Nat) → FnsV lv ls → Nat → (Tr Value → H → Rz) → Tr Value → H → Rz
  | [], _, _, out, fr, h => out fr h
  | l0 :: ls, p, l, out, fr, h => match Nat.beq l l0 with
    | true => appV (lv (1000000 + l0)) p.1 fr h
    | false => goK lv ls p.2 l out fr h

def labelsIn : Code → List Nat
  | .label l => [l]
  | .seq a b => labelsIn a ++ labelsIn b
  | .cond _ a b => labelsIn a ++ labelsIn b
  | .block _ c | .loop c | .scope c => labelsIn c
  | _ => []

structure Kont where
  nrm : Tr Value → H → Rz
  ret : Tr Value → H → Rz
  exit : Nat → Tr Value → H → Rz
  goto : Nat → Tr Value → H → Rz

/-- Is there a meeting of ways ahead of a piece of code: which slots are kept? (By the first region in it, from 2000000 on.) -/
abbrev Jn := Nat → Option (List Nat)

def joinOf (jv : Jn) (c : Code) : Option (List Nat) :=
  match firstReg c with
  | none => none
  | some r => jv r

def evK (Ty : Types) (F : FK) (lv : Lv) (jv : Jn) (n N : Nat) : Nat → Code → Kont → Tr Value → H → Rz
  | 0, _, _, _, _ => none
  | f + 1, c, κ, fr, h => match c with
    | .skip | .label _ => κ.nrm fr h
    | .ret => κ.ret fr h
    | .exit id => κ.exit id fr h
    | .goto l => κ.goto l fr h
    | .region _ ops false => evOpsK Ty F n ops.toList ops.toList fr h κ.nrm
    | .region _ ops true => match planL Ty n ops ops.toList [] with
      | some ps => lwK h (evDrawK Ty F n ops.toList ops.toList ps [] fr h κ.nrm)
      | none => none
    | .seq a b => match joinOf jv b with
      | none => evK Ty F lv jv n N f a ⟨fun fr h => evK Ty F lv jv n N f b κ fr h, κ.ret, κ.exit, κ.goto⟩ fr h
      | some l => jn (FnV l.length) (absV l (fun fr h => evK Ty F lv jv n N f b κ fr h) .leaf) fun j =>
        evK Ty F lv jv n N f a ⟨fun fr h => appV l j fr h, κ.ret, κ.exit, κ.goto⟩ fr h
    | .cond c t e => oV (evalF fr c) fun g => cdK g (evK Ty F lv jv n N f t κ fr h) (evK Ty F lv jv n N f e κ fr h)
    | .block id c => evK Ty F lv jv n N f c ⟨κ.nrm, κ.ret, fun i fr h => match Nat.beq i id with
        | true => κ.nrm fr h
        | false => κ.exit i fr h, κ.goto⟩ fr h
    | .loop c => appV (lv ((firstReg c).getD 0)) (lpK (FnV (lv ((firstReg c).getD 0)).length) (absV (lv ((firstReg c).getD 0)) (fun _ _ => none) .leaf) (fun ih =>
        absV (lv ((firstReg c).getD 0)) (fun fr h => evK Ty F lv jv n N f c ⟨fun fr h => appV (lv ((firstReg c).getD 0)) ih fr h, κ.ret, κ.exit, κ.goto⟩ fr h) .leaf) N) fr h
    | .scope c => jn (FnsV lv (labelsIn c)) (lpK (FnsV lv (labelsIn c)) (mkGo lv (labelsIn c) fun _ _ _ => none) (fun ih => mkGo lv (labelsIn c) fun l fr h => match findLabel c l with
        | some rest => evK Ty F lv jv n N f rest ⟨κ.nrm, κ.ret, κ.exit, fun l' fr h => goK lv (labelsIn c) ih l' (κ.goto l') fr h⟩ fr h
        | none => none) N) fun p => evK Ty F lv jv n N f c ⟨κ.nrm, κ.ret, κ.exit, fun l' fr h => goK lv (labelsIn c) p l' (κ.goto l') fr h⟩ fr h
    | _ => none

def resK (Ty : Types) (fr : Tr Value) (h : H) : List ResultVar → (List Value → Rz) → Rz
  | [], k => k []
  | .tmp t :: rs, k => oV (fr.get t) fun v => resK Ty fr h rs fun vs => k (v :: vs)
  | .cell x t :: rs, k => oV (fr.get x) fun p => oV (Ty t) fun i => bV (ld i h p) fun v => resK Ty fr h rs fun vs => k (v :: vs)

def retK (Ty : Types) (fn : Func) (fr : Tr Value) (h : H) : Rz := resK Ty fr h fn.results.toList fun vs => some (packR vs, h)

def frK : List Value → Nat → Tr Value → Tr Value
  | [], _, fr => fr
  | v :: vs, i, fr => frK vs (i + 1) (fr.put i (some v))

def runK (Ty : Types) (F : FK) (lv : Lv) (jv : Jn) (N fuel : Nat) (fn : Func) : FunA := fun args h =>
  match fn.body with
  | some c => match Nat.ble args.length fn.ntmps with
    | true => evK Ty F lv jv fn.ntmps N fuel c ⟨retK Ty fn, retK Ty fn, fun _ _ _ => none, fun _ _ _ => none⟩ (frK args 0 .leaf) h
    | false => none
  | none => none

def alk (l : List (Nat × List Nat)) (k : Nat) : Option (List Nat) :=
  List.rec (motive := fun _ => Option (List Nat)) none (fun p _ ih => Bool.rec (motive := fun _ => Option (List Nat)) ih (some p.2) (Nat.beq p.1 k)) l
def NN : Nat := 1000000
def FU : Nat := 200

/-- The functions of a table by their texts, to a depth of calls; some are given. -/
def deepK (Ty : Types) (T : Tr Func) (lv : Nat → Lv) (jv : Nat → Jn) (G : FunT) (N fuel : Nat) (d : Nat) : FK :=
  Nat.rec (motive := fun _ => FK) (fun g args h => match G g with
    | some f => f args h
    | none => none) (fun _ ih g args h => match G g with
    | some f => f args h
    | none => match T.get g with
      | some fn => runK Ty ih (lv g) (jv g) N fuel fn args h
      | none => none) d
end
end Go.Ab
