/-
A program's types, as the abstract machine has them.
-/
import Derived.Test.YtagmelohcilicaaGreatDoorCv26
namespace Go.Proofs.Cdm
open Go

/-- All is well with a table. -/
def tblOk (P : Program) (l : List (Nat × TI)) : Bool := l.all fun x => tiOk P x.1 x.2
theorem look_all {α : Type} {p : Nat × α → Bool} : ∀ {l : List (Nat × α)} {t : Nat} {i : α}, l.all p = true → look l t = some i → p (t, i) = true
  | [], t, i, _, h => by simp [look_nil] at h
  | x :: l, t, i, ha, h => by
    simp only [List.all_cons, Bool.and_eq_true] at ha
    rw [look_cons] at h
    split at h
    · rename_i e
      injection h with h
      subst e h
      exact ha.1
    · exact look_all ha.2 h
theorem tbl_ok {P : Program} {l : List (Nat × TI)} (h : tblOk P l = true) {t : TypeId} {i : TI} (ht : look l t = some i) : TIok P t i := tiOk_ok (look_all (p := fun x => tiOk P x.1 x.2) h ht)
end Go.Proofs.Cdm
