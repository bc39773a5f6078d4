/- Functions on lists, written by the recursors themselves: the kernel runs them quickly. Each is the library's. Conditions: none. -/
import Derived.Calls
set_option linter.all false
namespace Go.Ab.Fast
noncomputable section
universe u v
variable {α : Type u} {β : Type v}

def len (l : List α) : Nat := List.rec (motive := fun _ => Nat) 0 (fun _ _ ih => Nat.add ih 1) l
@[simp] theorem len_eq : ∀ l : List α, len l = l.length
  | [] => rfl
  | _ :: l => congrArg (· + 1) (len_eq l)

def app (l m : List α) : List α := List.rec (motive := fun _ => List α) m (fun a _ ih => a :: ih) l
@[simp] theorem app_eq (m : List α) : ∀ l : List α, app l m = l ++ m
  | [] => rfl
  | a :: l => congrArg (a :: ·) (app_eq m l)

def get (l : List α) : Nat → Option α :=
  List.rec (motive := fun _ => Nat → Option α) (fun _ => none) (fun a _ ih n => Nat.rec (motive := fun _ => Option α) (some a) (fun m _ => ih m) n) l
@[simp] theorem get_eq : ∀ (l : List α) (n : Nat), get l n = l[n]?
  | [], _ => rfl
  | _ :: _, 0 => rfl
  | _ :: l, n + 1 => (get_eq l n).trans (by simp)

def set (l : List α) (v : α) : Nat → List α :=
  List.rec (motive := fun _ => Nat → List α) (fun _ => []) (fun a t ih n => Nat.rec (motive := fun _ => List α) (v :: t) (fun m _ => a :: ih m) n) l
@[simp] theorem set_eq (v : α) : ∀ (l : List α) (n : Nat), set l v n = l.set n v
  | [], _ => rfl
  | _ :: _, 0 => rfl
  | a :: l, n + 1 => congrArg (a :: ·) (set_eq v l n)

def drop (n : Nat) : List α → List α :=
  Nat.rec (motive := fun _ => List α → List α) (fun l => l) (fun _ ih l => List.rec (motive := fun _ => List α) [] (fun _ t _ => ih t) l) n
@[simp] theorem drop_eq : ∀ (n : Nat) (l : List α), drop n l = l.drop n
  | 0, _ => rfl
  | _ + 1, [] => rfl
  | n + 1, _ :: l => drop_eq n l

def take (n : Nat) : List α → List α :=
  Nat.rec (motive := fun _ => List α → List α) (fun _ => []) (fun _ ih l => List.rec (motive := fun _ => List α) [] (fun a t _ => a :: ih t) l) n
@[simp] theorem take_eq : ∀ (n : Nat) (l : List α), take n l = l.take n
  | 0, _ => rfl
  | _ + 1, [] => rfl
  | n + 1, a :: l => congrArg (a :: ·) (take_eq n l)

def all (p : α → Bool) (l : List α) : Bool := List.rec (motive := fun _ => Bool) true (fun a _ ih => Bool.rec (motive := fun _ => Bool) false ih (p a)) l
@[simp] theorem all_eq (p : α → Bool) : ∀ l : List α, all p l = l.all p
  | [] => rfl
  | a :: l => by
    show Bool.rec (motive := fun _ => Bool) false (all p l) (p a) = _
    rw [all_eq p l, List.all_cons]
    cases p a <;> rfl

def map (f : α → β) (l : List α) : List β := List.rec (motive := fun _ => List β) [] (fun a _ ih => f a :: ih) l
@[simp] theorem map_eq (f : α → β) : ∀ l : List α, map f l = l.map f
  | [] => rfl
  | a :: l => congrArg (f a :: ·) (map_eq f l)

def dup (a : α) (n : Nat) : List α := Nat.rec (motive := fun _ => List α) [] (fun _ ih => a :: ih) n
@[simp] theorem dup_eq (a : α) : ∀ n, dup a n = List.replicate n a
  | 0 => rfl
  | n + 1 => congrArg (a :: ·) (dup_eq a n)

/-- The first n of a list that has so many. -/
def takeO (n : Nat) : List α → Option (List α) :=
  Nat.rec (motive := fun _ => List α → Option (List α)) (fun _ => some []) (fun _ ih l => List.rec (motive := fun _ => Option (List α)) none
    (fun a t _ => Option.rec (motive := fun _ => Option (List α)) none (fun r => some (a :: r)) (ih t)) l) n
theorem takeO_eq : ∀ (n : Nat) (l : List α), takeO n l = cond (Nat.ble n l.length) (some (l.take n)) none
  | 0, l => rfl
  | n + 1, [] => rfl
  | n + 1, a :: l => by
    show Option.rec (motive := fun _ => Option (List α)) none (fun r => some (a :: r)) (takeO n l) = _
    rw [takeO_eq n l]
    show _ = cond (Nat.ble (n + 1) (l.length + 1)) _ _
    rw [show Nat.ble (n + 1) (l.length + 1) = Nat.ble n l.length from rfl]
    cases Nat.ble n l.length <;> rfl

def dropO (n : Nat) : List α → Option (List α) :=
  Nat.rec (motive := fun _ => List α → Option (List α)) (fun l => some l) (fun _ ih l => List.rec (motive := fun _ => Option (List α)) none (fun _ t _ => ih t) l) n
theorem dropO_eq : ∀ (n : Nat) (l : List α), dropO n l = cond (Nat.ble n l.length) (some (l.drop n)) none
  | 0, l => rfl
  | n + 1, [] => rfl
  | n + 1, a :: l => dropO_eq n l

/-- A piece of a list. -/
def cut (l : List α) (off n : Nat) : Option (List α) := Option.rec (motive := fun _ => Option (List α)) none (fun r => takeO n r) (dropO off l)
theorem cut_eq (l : List α) (off n : Nat) : cut l off n = cond (Nat.ble (off + n) l.length) (some ((l.drop off).take n)) none := by
  unfold cut
  rw [dropO_eq]
  cases h : Nat.ble off l.length with
  | false =>
    have : Nat.ble (off + n) l.length = false := by
      cases h2 : Nat.ble (off + n) l.length with
      | false => rfl
      | true => have := Nat.le_of_ble_eq_true h2; rw [Nat.ble_eq_true_of_le (by omega)] at h; cases h
    rw [this]; rfl
  | true =>
    have h1 := Nat.le_of_ble_eq_true h
    show takeO n (l.drop off) = _
    rw [takeO_eq]
    have : Nat.ble n (l.drop off).length = Nat.ble (off + n) l.length := by
      rw [Bool.eq_iff_iff, Nat.ble_eq, Nat.ble_eq, List.length_drop]; omega
    rw [this]

/-- Some cells of a list put anew. -/
def splice (off : Nat) (vs : List α) : List α → List α :=
  Nat.rec (motive := fun _ => List α → List α)
    (fun cs => List.rec (motive := fun _ => List α → List α) (fun cs => cs) (fun v _ ih cs => List.rec (motive := fun _ => List α) [] (fun _ t _ => v :: ih t) cs) vs cs)
    (fun _ ih cs => List.rec (motive := fun _ => List α) [] (fun c t _ => c :: ih t) cs) off
end
end Go.Ab.Fast
