/-
Trees of errors, as data: what errors.Is and errors.As find in them.
-/
import Derived.Test.YtagmelohcilicaaGreatDoorCv28
import Derived.WalkKit
import Derived.LaidEql
import Derived.Stop.Asserts
import Derived.RowKitTokens
namespace Go.Proofs.Cdm
open Go Go.RowKit

/-- How an error's type unwraps: not at all; to a field; to a list. -/
inductive EK where
  | leaf
  | wrap (g : FuncId) (n j : Nat)
  | join (g : FuncId)

def DV.isIfc : DV → Bool
  | .ifc _ _ _ => true
  | _ => false
def anyO {α β : Type} (f : α → Option (Option β)) : List α → Option (Option β)
  | [] => some none
  | d :: r => match f d with
    | none => none
    | some none => anyO f r
    | some (some x) => some (some x)
/-- The first link of type 'tt', its cells. -/
def findD (tb : List (Nat × EK)) (tt : TypeId) : Nat → DV → Option (Option (Bool × List DV))
  | 0, _ => none
  | n + 1, .ifc t agg cells => bif Nat.beq t tt then some (some (agg, cells)) else match look tb t with
    | none => none
    | some .leaf => some none
    | some (.wrap _ m j) => bif agg && Nat.beq cells.length m then match nth cells j with
        | some .nilI => some none
        | some (.ifc t' a' c') => findD tb tt n (.ifc t' a' c')
        | _ => none
      else none
    | some (.join _) => match agg, cells with
      | false, [.ptr (.sl m ds :: _)] => bif Nat.beq m ds.length && ds.all DV.isIfc then anyO (findD tb tt n) ds else none
      | _, _ => none
  | _, _ => none

/-! ### A measure -/
theorem exists_least (p : Nat → Prop) : ∀ n, p n → ∃ n, p n ∧ ∀ m, p m → n ≤ m := by
  intro n
  induction n using Nat.strongRecOn with
  | ind n ih =>
    intro h
    by_cases hx : ∃ m, m < n ∧ p m
    · obtain ⟨m, h1, h2⟩ := hx
      exact ih m h1 h2
    · exact ⟨n, h, fun m hm => by
        rcases Nat.lt_or_ge m n with h1 | h1
        · exact absurd ⟨m, h1, hm⟩ hx
        · exact h1⟩
open Classical in
noncomputable def least (p : Nat → Prop) : Nat := if h : ∃ n, p n ∧ ∀ m, p m → n ≤ m then h.choose else 0
theorem least_le {p : Nat → Prop} {n : Nat} (h : p n) : least p ≤ n := by
  have hx := exists_least p n h
  unfold least
  rw [dif_pos hx]
  exact hx.choose_spec.2 n h
theorem least_spec {p : Nat → Prop} {n : Nat} (h : p n) : p (least p) := by
  have hx := exists_least p n h
  unfold least
  rw [dif_pos hx]
  exact hx.choose_spec.1

/-! ### What a cell holds -/
theorem Rep.ifcT {w : World} {RO : Nat → Nat → Prop} {t : TypeId} {ds : List DV} {v : Value} (h : Rep w RO (.ifc t true ds) v) : ∃ vs : List Value, v = .iface t (.agg vs.toArray) ∧ Reps w RO ds vs := by
  cases h with
  | ifcA t ds vs h r => exact ⟨vs, rfl, h, r⟩
theorem Rep.ifcF {w : World} {RO : Nat → Nat → Prop} {t : TypeId} {ds : List DV} {v : Value} (h : Rep w RO (.ifc t false ds) v) : ∃ d u, ds = [d] ∧ v = .iface t u ∧ Rep w RO d u := by
  cases h with
  | ifc t d v h r => exact ⟨d, v, rfl, rfl, r⟩
theorem Rep.ifcV {w : World} {RO : Nat → Nat → Prop} {t : TypeId} {a : Bool} {ds : List DV} {v : Value} (h : Rep w RO (.ifc t a ds) v) : ∃ u, v = .iface t u := by
  cases h <;> exact ⟨_, rfl⟩
theorem Rep.nilV {w : World} {RO : Nat → Nat → Prop} {v : Value} (h : Rep w RO .nilI v) : v = .nilIface := by cases h; rfl
/-- What a pointer to a struct with a slice leads to. -/
theorem Rep.joined {w : World} {RO : Nat → Nat → Prop} {m : Nat} {ds r : List DV} {v : Value} (h : Rep w RO (.ptr (.sl m ds :: r)) v) (hm : m = ds.length) :
    ∃ b o A c, v = .pointer (some ⟨b, o, none⟩) ∧ m ≤ 140737488355328 ∧ w.cell? ⟨b, o, none⟩ = some (.slice A m c) ∧ ∀ i (h : i < ds.length), ∃ a x, A = some a ∧ w.cell? ⟨a.block, a.off + i, none⟩ = some x ∧ a.spot = none ∧ Rep w RO ds[i] x := by
  cases h with
  | ptr cells b o vs hcell hro rr =>
    have h0 := hcell 0 (by simp)
    have r0 := rr 0 (by simp)
    simp only [Nat.add_zero] at h0
    simp only [List.getElem_cons_zero] at r0
    generalize hv : vs 0 = v0 at h0 r0
    cases r0 with
    | sl0 a c ha => exact ⟨b, o, a, c, rfl, by omega, h0, fun i hi => by simp at hi⟩
    | sl n cells b' o' c vs' hn hm' hc hcell' hro' r' => exact ⟨b, o, _, c, rfl, hm', h0, fun i hi => ⟨_, vs' i, rfl, hcell' i hi, rfl, r' i hi⟩⟩

theorem enterF {P : Program} {f : FuncId} {fn : Func} (hf : P.funcs[f]? = some fn) (hname : (fn.name == "runtime.NumGoroutine") = false) (hb : fn.body.isNone = false) (args : Array Value) (w : World) : (callFunc f args).run P w = .ok (.enter f args) w := by
  unfold callFunc
  have hp : (program).run P w = .ok P w := rfl
  simp only [Sem.run_bind, hp, Result.andThen_ok, hf, hname, hb, Bool.false_eq_true, if_false, Sem.run_pure]
theorem cell_lt {w : World} {a : Addr} {v : Value} (h : w.cell? a = some v) : a.block < w.heap.size := by
  rcases Nat.lt_or_ge a.block w.heap.size with h' | h'
  · exact h'
  · simp [World.cell?, Array.getElem?_eq_none h'] at h
theorem Rep.grow {w w' : World} {RO : Nat → Nat → Prop} (hRO : ∀ b o, RO b o → b < w.heap.size) (hb : Below w.heap.size w w') {d : DV} {v : Value} (h : Rep w RO d v) : Rep w' RO d v :=
  h.keep ⟨fun _ _ h => h, fun b o v hro hcell => by rw [World.cell?_of_block (w := w) (hb.block b (hRO b o hro))]; exact hcell⟩
theorem Rep.joined2 {w : World} {RO : Nat → Nat → Prop} {m : Nat} {ds r : List DV} {v : Value} (hRO : ∀ b o, RO b o → b < w.heap.size) (h : Rep w RO (.ptr (.sl m ds :: r)) v) (hm : m = ds.length) :
    ∃ b o A c, v = .pointer (some ⟨b, o, none⟩) ∧ m ≤ 140737488355328 ∧ w.cell? ⟨b, o, none⟩ = some (.slice A m c) ∧ ∀ w', Below w.heap.size w w' → ∀ i (h : i < ds.length), ∃ b' o' x, A = some ⟨b', o', none⟩ ∧ w'.cell? ⟨b', o' + i, none⟩ = some x ∧ Rep w' RO ds[i] x := by
  obtain ⟨b, o, A, c, h1, hl, h2, h3⟩ := h.joined hm
  refine ⟨b, o, A, c, h1, hl, h2, fun w' hb i hi => ?_⟩
  obtain ⟨⟨b', o', sp⟩, x, rfl, h4, h5, h6⟩ := h3 i hi
  simp only at h5 h4
  subst h5
  have hlt : b' < w.heap.size := cell_lt h4
  exact ⟨b', o', x, rfl, by rw [World.cell?_of_block (w := w) (hb.block b' hlt)]; exact h4, h6.grow hRO hb⟩
/-- What a type's methods come to, as errors.Is and errors.As ask for them. -/
structure TagOk (P : Program) (sz : Nat) (isI asI uw uws : TypeId) (t : TypeId) (k : EK) : Prop where
  noIs : ∀ (v : Value) (xT : TypeId) (w : World), (Instr.typeAssert (.iface t v) xT isI true).run P w = .ok (.tuple #[.nilIface, .bool false]) w
  noAs : ∀ (v : Value) (xT : TypeId) (w : World), (Instr.typeAssert (.iface t v) xT asI true).run P w = .ok (.tuple #[.nilIface, .bool false]) w
  kind : match k with
    | .leaf => (∀ (v : Value) (xT : TypeId) (w : World), (Instr.typeAssert (.iface t v) xT uw true).run P w = .ok (.tuple #[.nilIface, .bool false]) w) ∧
        ∀ (v : Value) (xT : TypeId) (w : World), (Instr.typeAssert (.iface t v) xT uws true).run P w = .ok (.tuple #[.nilIface, .bool false]) w
    | .wrap g n j => (∀ (v : Value) (xT : TypeId) (w : World), (Instr.typeAssert (.iface t v) xT uw true).run P w = .ok (.tuple #[.iface t v, .bool true]) w) ∧
        (∀ (v : Value) (w : World), (method sz t v "Unwrap").run P w = .ok (g, v) w) ∧ (∀ (args : Array Value) (w : World), (callFunc g args).run P w = .ok (.enter g args) w) ∧
        ∀ (vs : List Value) (x : Value) (w : World), vs.length = n → vs[j]? = some x → Calls P g #[.agg vs.toArray] w fun e w' => e = .returned x ∧ Below w.heap.size w w'
    | .join g => (∀ (v : Value) (xT : TypeId) (w : World), (Instr.typeAssert (.iface t v) xT uw true).run P w = .ok (.tuple #[.nilIface, .bool false]) w) ∧
        (∀ (v : Value) (xT : TypeId) (w : World), (Instr.typeAssert (.iface t v) xT uws true).run P w = .ok (.tuple #[.iface t v, .bool true]) w) ∧
        (∀ (v : Value) (w : World), (method sz t v "Unwrap").run P w = .ok (g, v) w) ∧ (∀ (args : Array Value) (w : World), (callFunc g args).run P w = .ok (.enter g args) w) ∧
        ∀ (b o : Nat) (s : Value) (w : World), w.cell? ⟨b, o, none⟩ = some s → Calls P g #[.pointer (some ⟨b, o, none⟩)] w fun e w' => e = .returned s ∧ Below w.heap.size w w'
theorem look_forall {α : Type} {p : Nat → α → Prop} : ∀ {l : List (Nat × α)}, (∀ x ∈ l, p x.1 x.2) → ∀ {t : Nat} {k : α}, look l t = some k → p t k
  | [], _, t, k, h => by simp [look_nil] at h
  | x :: l, ha, t, k, h => by
    rw [look_cons] at h
    split at h
    · rename_i e
      injection h with h
      subst e h
      exact ha x (by simp)
    · exact look_forall (fun y hy => ha y (by simp [hy])) h
end Go.Proofs.Cdm
