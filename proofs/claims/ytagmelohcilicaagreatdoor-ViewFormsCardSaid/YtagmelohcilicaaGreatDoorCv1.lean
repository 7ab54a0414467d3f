/-
The values of the abstract machine: deep data, its types, and when a machine's value stands for it.
-/
import Derived.Calls
import Derived.Maps.AppendAt
import Derived.Below
import Derived.OwnWalk
namespace Go.Proofs.Cdm
open Go

/-- Deep data, one cell. -/
inductive DV where
  | int (k : IntKind) (n : Int)
  | bool (b : Bool)
  | str (s : List UInt8)
  | nilI
  | ifc (t : TypeId) (agg : Bool) (cells : List DV)
  | sl (n : Nat) (cells : List DV)
  | ptr (cells : List DV)
  deriving Inhabited

/-- Filters, as trees. -/
inductive Flt where
  | mk (op key lo hi : Int) (tag : List UInt8) (args : List Flt)
  deriving Inhabited

inductive Ty where
  | int (k : IntKind)
  | bool
  | str
  | ifc
  | flt
  | slice (t : Ty)
  | unit
  | cons (a b : Ty)
  | array (n : Nat) (t : Ty)
  | op
  deriving DecidableEq, Inhabited

@[reducible] def Ty.den : Ty → Type
  | .int _ => Int
  | .bool => Bool
  | .str => List UInt8
  | .ifc => DV
  | .flt => Flt
  | .slice t => List t.den
  | .unit => Unit
  | .cons a b => a.den × b.den
  | .array _ t => List t.den
  | .op => Unit

def Ty.size : Ty → Nat
  | .unit => 0
  | .cons a b => a.size + b.size
  | .array n t => n * t.size
  | .flt => 6
  | _ => 1

def Ty.isAgg : Ty → Bool
  | .unit | .cons _ _ | .array _ _ | .flt => true
  | _ => false

mutual
def encFlt : Flt → List DV
  | .mk op key lo hi tag args => [.int .i64 op, .int .i64 key, .int .i64 lo, .int .i64 hi, .str tag, .sl args.length (encFlts args)]
def encFlts : List Flt → List DV
  | [] => []
  | f :: l => encFlt f ++ encFlts l
end

def enc : (t : Ty) → t.den → List DV
  | .int k, n => [.int k n]
  | .bool, b => [.bool b]
  | .str, s => [.str s]
  | .ifc, d => [d]
  | .flt, f => encFlt f
  | .slice t, l => [.sl l.length (l.flatMap (enc t))]
  | .unit, _ => []
  | .cons a b, x => enc a x.1 ++ enc b x.2
  | .array _ t, l => l.flatMap (enc t)
  | .op, _ => [.nilI]

/-- An interface's value. -/
def DV.isI : DV → Bool
  | .nilI | .ifc _ _ _ => true
  | _ => false
/-- Arrays have their length; interfaces hold interfaces' values. -/
def wft : (t : Ty) → t.den → Prop
  | .slice t, l => ∀ x ∈ l, wft t x
  | .cons a b, x => wft a x.1 ∧ wft b x.2
  | .array n t, l => l.length = n ∧ ∀ x ∈ l, wft t x
  | .ifc, d => d.isI = true
  | _, _ => True

theorem encFlts_eq (l : List Flt) : encFlts l = l.flatMap encFlt := by
  induction l with
  | nil => simp [encFlts]
  | cons f l ih => simp [encFlts, ih]
theorem length_encFlt (f : Flt) : (encFlt f).length = 6 := by
  cases f; simp [encFlt]

theorem length_flatMap_of {α β : Type} (f : α → List β) (s : Nat) (l : List α) (h : ∀ x ∈ l, (f x).length = s) : (l.flatMap f).length = l.length * s := by
  induction l with
  | nil => simp
  | cons a l ih =>
    rw [List.flatMap_cons, List.length_append, h a (by simp), ih (fun x hx => h x (by simp [hx])), List.length_cons, Nat.add_mul]; omega

theorem length_enc : (t : Ty) → (x : t.den) → wft t x → (enc t x).length = t.size
  | .int _, _, _ | .bool, _, _ | .str, _, _ | .ifc, _, _ | .slice _, _, _ | .unit, _, _ | .op, _, _ => by simp [enc, Ty.size]
  | .flt, f, _ => length_encFlt f
  | .cons a b, x, h => by
    simp only [enc, List.length_append, Ty.size]
    rw [length_enc a x.1 h.1, length_enc b x.2 h.2]
  | .array n t, l, h => by
    simp only [enc, Ty.size]
    rw [length_flatMap_of (enc t) t.size l (fun x hx => length_enc t x (h.2 x hx)), h.1]

/-- A plain place, or none. -/
def plainA : Option Addr → Bool
  | some ⟨_, _, some _⟩ => false
  | _ => true
/-- A machine's cell stands for deep data; what it leads to lies in cells that are not written any more. -/
inductive Rep (w : World) (RO : Nat → Nat → Prop) : DV → Value → Prop
  | int (k : IntKind) (n : Int) : Rep w RO (.int k n) (.int k n)
  | bool (b : Bool) : Rep w RO (.bool b) (.bool b)
  | str (s : List UInt8) (h : s.length ≤ 140737488355328) : Rep w RO (.str s) (.string ⟨s.toArray⟩)
  | nilI : Rep w RO .nilI .nilIface
  | ifc (t : TypeId) (d : DV) (v : Value) (h : v.cells = #[v]) (r : Rep w RO d v) : Rep w RO (.ifc t false [d]) (.iface t v)
  | ifcA (t : TypeId) (ds : List DV) (vs : List Value) (h : ds.length = vs.length) (r : ∀ (i : Nat) (h : i < ds.length) (h' : i < vs.length), Rep w RO ds[i] vs[i]) : Rep w RO (.ifc t true ds) (.iface t (.agg vs.toArray))
  | sl0 (a : Option Addr) (c : Nat) (ha : plainA a = true) : Rep w RO (.sl 0 []) (.slice a 0 c)
  | sl (n : Nat) (cells : List DV) (b o c : Nat) (vs : Nat → Value) (hn : 0 < n) (hm : n ≤ 140737488355328) (hc : n ≤ c)
      (hcell : ∀ j, j < cells.length → w.cell? ⟨b, o + j, none⟩ = some (vs j)) (hro : ∀ j, j < cells.length → RO b (o + j)) (r : ∀ (j : Nat) (h : j < cells.length), Rep w RO cells[j] (vs j)) :
      Rep w RO (.sl n cells) (.slice (some ⟨b, o, none⟩) n c)
  | ptr (cells : List DV) (b o : Nat) (vs : Nat → Value)
      (hcell : ∀ j, j < cells.length → w.cell? ⟨b, o + j, none⟩ = some (vs j)) (hro : ∀ j, j < cells.length → RO b (o + j)) (r : ∀ (j : Nat) (h : j < cells.length), Rep w RO cells[j] (vs j)) :
      Rep w RO (.ptr cells) (.pointer (some ⟨b, o, none⟩))

/-- What is not written any more stays, and more may be so. -/
structure Keep (w w' : World) (RO RO' : Nat → Nat → Prop) : Prop where
  ro : ∀ b o, RO b o → RO' b o
  cell : ∀ b o v, RO b o → w.cell? ⟨b, o, none⟩ = some v → w'.cell? ⟨b, o, none⟩ = some v
theorem Keep.refl (w : World) (RO : Nat → Nat → Prop) : Keep w w RO RO := ⟨fun _ _ h => h, fun _ _ _ _ h => h⟩
theorem Keep.trans {w w1 w2 : World} {A B C : Nat → Nat → Prop} (h : Keep w w1 A B) (k : Keep w1 w2 B C) : Keep w w2 A C :=
  ⟨fun b o x => k.ro b o (h.ro b o x), fun b o v x y => k.cell b o v (h.ro b o x) (h.cell b o v x y)⟩

theorem Rep.keep {w w' : World} {RO RO' : Nat → Nat → Prop} (k : Keep w w' RO RO') {d : DV} {v : Value} (h : Rep w RO d v) : Rep w' RO' d v := by
  induction h with
  | int k n => exact .int k n
  | bool b => exact .bool b
  | str s h => exact .str s h
  | nilI => exact .nilI
  | ifc t d v h _ ih => exact .ifc t d v h ih
  | ifcA t ds vs h _ ih => exact .ifcA t ds vs h ih
  | sl0 a c ha => exact .sl0 a c ha
  | sl n cells b o c vs hn hm hc hcell hro _ ih => exact .sl n cells b o c vs hn hm hc (fun j hj => k.cell _ _ _ (hro j hj) (hcell j hj)) (fun j hj => k.ro _ _ (hro j hj)) ih
  | ptr cells b o vs hcell hro _ ih => exact .ptr cells b o vs (fun j hj => k.cell _ _ _ (hro j hj) (hcell j hj)) (fun j hj => k.ro _ _ (hro j hj)) ih

/-- Every cell's value is one cell's. -/
theorem Rep.one {w : World} {RO : Nat → Nat → Prop} {d : DV} {v : Value} (h : Rep w RO d v) : v.cells = #[v] ∧ v.oneCell' = true := by
  cases h <;> exact ⟨rfl, rfl⟩

/-- A row of cells. -/
def Reps (w : World) (RO : Nat → Nat → Prop) (ds : List DV) (vs : List Value) : Prop :=
  ds.length = vs.length ∧ ∀ (i : Nat) (h : i < ds.length) (h' : i < vs.length), Rep w RO ds[i] vs[i]
theorem Reps.nil {w : World} {RO : Nat → Nat → Prop} : Reps w RO [] [] := ⟨rfl, fun i h => by simp at h⟩
theorem Reps.one {w : World} {RO : Nat → Nat → Prop} {d : DV} {v : Value} (h : Rep w RO d v) : Reps w RO [d] [v] :=
  ⟨rfl, fun i h1 h2 => by simp at h1; subst h1; exact h⟩
theorem Reps.keep {w w' : World} {RO RO' : Nat → Nat → Prop} (k : Keep w w' RO RO') {ds : List DV} {vs : List Value} (h : Reps w RO ds vs) : Reps w' RO' ds vs :=
  ⟨h.1, fun i h1 h2 => (h.2 i h1 h2).keep k⟩
theorem Reps.append {w : World} {RO : Nat → Nat → Prop} {ds es : List DV} {vs us : List Value} (h : Reps w RO ds vs) (k : Reps w RO es us) : Reps w RO (ds ++ es) (vs ++ us) := by
  refine ⟨by simp [h.1, k.1], fun i h1 h2 => ?_⟩
  have hl := h.1
  by_cases hi : i < ds.length
  · rw [List.getElem_append_left hi, List.getElem_append_left (by omega)]; exact h.2 i hi (by omega)
  · rw [List.getElem_append_right (by omega), List.getElem_append_right (by omega)]
    have := k.2 (i - ds.length) (by simp at h1; omega) (by simp at h2; omega)
    simpa only [hl] using this
theorem Reps.split {w : World} {RO : Nat → Nat → Prop} {ds es : List DV} {vs : List Value} (h : Reps w RO (ds ++ es) vs) : ∃ us ts, vs = us ++ ts ∧ Reps w RO ds us ∧ Reps w RO es ts := by
  have hl := h.1
  rw [List.length_append] at hl
  refine ⟨vs.take ds.length, vs.drop ds.length, (List.take_append_drop _ _).symm, ⟨by simp; omega, fun i h1 h2 => ?_⟩, ⟨by simp; omega, fun i h1 h2 => ?_⟩⟩
  · have := h.2 i (by simp; omega) (by omega)
    rw [List.getElem_append_left h1] at this
    simpa using this
  · have := h.2 (ds.length + i) (by simp; omega) (by omega)
    rw [List.getElem_append_right (by omega)] at this
    simpa using this
theorem Reps.get {w : World} {RO : Nat → Nat → Prop} {ds : List DV} {vs : List Value} (h : Reps w RO ds vs) (i : Nat) (hi : i < ds.length) : ∃ v, vs[i]? = some v ∧ Rep w RO ds[i] v := by
  have hl := h.1
  exact ⟨vs[i]'(by omega), List.getElem?_eq_getElem (by omega), h.2 i hi (by omega)⟩

/-- A value of a type, in cells. -/
def RepT (w : World) (RO : Nat → Nat → Prop) (t : Ty) (x : t.den) (vs : List Value) : Prop := wft t x ∧ Reps w RO (enc t x) vs
theorem RepT.keep {w w' : World} {RO RO' : Nat → Nat → Prop} (k : Keep w w' RO RO') {t : Ty} {x : t.den} {vs : List Value} (h : RepT w RO t x vs) : RepT w' RO' t x vs := ⟨h.1, h.2.keep k⟩
theorem RepT.length {w : World} {RO : Nat → Nat → Prop} {t : Ty} {x : t.den} {vs : List Value} (h : RepT w RO t x vs) : vs.length = t.size := by
  rw [← h.2.1, length_enc t x h.1]

/-- As a value: a struct's cells together, or the one cell. -/
def pack (agg : Bool) (vs : List Value) : Value := if agg then .agg vs.toArray else vs.headD undef

end Go.Proofs.Cdm
