/-
What is told of a program's types, and operands.
-/
import Derived.Test.YtagmelohcilicaaGreatDoorCv6
import Derived.Laws.CopyRow
import Derived.Laws.Rows
import Derived.Laws.Cells
import Derived.Lib.AppendStr
namespace Go.Proofs.Cdm
open Go Go.RowKit

/-! ### Types -/
def aggD : TypeDesc → Bool
  | .struct _ | .array _ _ => true
  | _ => false
def NotI : TypeDesc → Prop
  | .interface _ => False
  | _ => True
def zcell : Ty → Value → Bool
  | .int k, .int k' n => decide (k = k') && decide (n = 0)
  | .bool, .bool b => !b
  | .str, .string s => s.data.size == 0
  | .ifc, .nilIface => true
  | .slice _, .slice none 0 0 => true
  | _, _ => false
def zchk : Ty → List Value → Option (List Value)
  | .cons a b, vs => (zchk a vs).bind (zchk b)
  | .unit, vs => some vs
  | .array n t, vs => Nat.rec (some vs) (fun _ r => r.bind (zchk t)) n
  | .flt, .int .i64 0 :: .int .i64 0 :: .int .i64 0 :: .int .i64 0 :: v :: .slice none 0 0 :: r => if zcell .str v then some r else none
  | .flt, _ => none
  | .op, .pointer none :: r => some r
  | .op, .nilFunc :: r => some r
  | .op, _ => none
  | t, v :: r => if zcell t v then some r else none
  | _, [] => none
def noOp : Ty → Bool
  | .op => false
  | .cons a b => noOp a && noOp b
  | .array _ t => noOp t
  | .slice _ => true
  | _ => true
def arrOk : Ty → Bool
  | .cons a b => arrOk a && arrOk b
  | .array _ t => noOp t
  | _ => true
structure ElemOk0 (P : Program) (e : TypeId) (u : Ty) : Prop where
  inf : ∃ j, P.info? e = some j ∧ j.size = u.size
  und : ∃ d, P.underlying e = some d ∧ aggD d = u.isAgg
structure ElemOk (P : Program) (e : TypeId) (u : Ty) : Prop extends ElemOk0 P e u where
  pos : 0 < u.size
/-- Compared part by part, as a whole. -/
def EqOk (P : Program) (t : TypeId) (u : Ty) : Prop := u.isAgg = true ∧ ∀ (w : World) (RO : Nat → Nat → Prop) (x y : u.den) (xs ys : List Value), RepT w RO u x xs → RepT w RO u y ys →
  ∀ xo yo : Operand, (do eqGuard .eql t xo yo (.agg xs.toArray) (.agg ys.toArray); binOp .eql t (.agg xs.toArray) (.agg ys.toArray) : Sem Value).run P w = .ok (.bool (eqT u x y)) w ∧
    (do eqGuard .neq t xo yo (.agg xs.toArray) (.agg ys.toArray); binOp .neq t (.agg xs.toArray) (.agg ys.toArray) : Sem Value).run P w = .ok (.bool (!eqT u x y)) w
structure TIok (P : Program) (t : TypeId) (i : TI) : Prop where
  cmp : i.cmp = true → EqOk P t i.ty
  el : ElemOk0 P t i.ty
  zero : ∃ j z, P.info? t = some j ∧ j.zero = some z ∧ zchk i.ty z.cells.toList = some []
  arr : arrOk i.ty = true
  und : ∃ d, P.underlying t = some d ∧ match i.ty with
    | .int k => d = .int k
    | .bool => d = .bool
    | .str => d = .string
    | .ifc => ∃ ms, d = .interface ms
    | .slice u => d = .slice i.e ∧ ElemOk P i.e u ∧ ∃ j z, P.info? i.e = some j ∧ j.bytes = i.bytes ∧ 0 < j.bytes ∧ j.zero = some z ∧ zchk u z.cells.toList = some [] ∧ noOp u = true
    | .array n u => ∃ e, d = .array n e ∧ ElemOk P e u
    | .op => NotI d
    | ty => ∃ fs, d = .struct fs ∧ fs.size = ty.nf ∧ ∀ j f, fs[j]? = some f → ∃ u, offT (fstep ty j) ty = some (f.offset, u) ∧ ElemOk P f.type u
def elemOk (P : Program) (e : TypeId) (u : Ty) : Bool := match P.info? e, P.underlying e with
  | some j, some d => j.size == u.size && aggD d == u.isAgg && Nat.blt 0 u.size
  | _, _ => false
def elemOk0 (P : Program) (e : TypeId) (u : Ty) : Bool := match P.info? e, P.underlying e with
  | some j, some d => j.size == u.size && aggD d == u.isAgg
  | _, _ => false
def zeroOk (P : Program) (e : TypeId) (u : Ty) : Bool := match P.info? e with
  | some j => match j.zero with
    | some z => (match zchk u z.cells.toList with | some [] => true | _ => false)
    | none => false
  | none => false
def fieldsOk (P : Program) (ty : Ty) : Nat → List Field → Bool
  | _, [] => true
  | j, f :: r => (match offT (fstep ty j) ty with
    | some x => x.1 == f.offset && elemOk P f.type x.2
    | none => false) && fieldsOk P ty (j + 1) r
def tiOk (P : Program) (t : TypeId) (i : TI) : Bool :=
  !i.cmp && elemOk0 P t i.ty && zeroOk P t i.ty && arrOk i.ty && match P.underlying t with
  | none => false
  | some d => match i.ty, d with
    | .int k, .int k' => decide (k = k')
    | .bool, .bool => true
    | .str, .string => true
    | .ifc, .interface _ => true
    | .slice u, .slice e => e == i.e && elemOk P e u && zeroOk P e u && noOp u && (match P.info? e with | some j => j.bytes == i.bytes && Nat.blt 0 j.bytes | none => false)
    | .array n u, .array n' e => n == n' && elemOk P e u
    | .op, .interface _ => false
    | .op, _ => true
    | .unit, .struct fs => fs.size == Ty.unit.nf && fieldsOk P .unit 0 fs.toList
    | .cons a b, .struct fs => fs.size == (Ty.cons a b).nf && fieldsOk P (.cons a b) 0 fs.toList
    | .flt, .struct fs => fs.size == Ty.flt.nf && fieldsOk P .flt 0 fs.toList
    | _, _ => false
theorem elemOk_ok {P : Program} {e : TypeId} {u : Ty} (h : elemOk P e u = true) : ElemOk P e u := by
  unfold elemOk at h
  split at h
  · rename_i j d h1 h2
    simp only [Bool.and_eq_true, beq_iff_eq] at h
    exact ⟨⟨⟨j, h1, h.1.1⟩, ⟨d, h2, h.1.2⟩⟩, blt_iff.1 h.2⟩
  · cases h
theorem elemOk0_ok {P : Program} {e : TypeId} {u : Ty} (h : elemOk0 P e u = true) : ElemOk0 P e u := by
  unfold elemOk0 at h
  split at h
  · rename_i j d h1 h2
    simp only [Bool.and_eq_true, beq_iff_eq] at h
    exact ⟨⟨j, h1, h.1⟩, ⟨d, h2, h.2⟩⟩
  · cases h
theorem zeroOk_ok {P : Program} {e : TypeId} {u : Ty} (h : zeroOk P e u = true) : ∃ j z, P.info? e = some j ∧ j.zero = some z ∧ zchk u z.cells.toList = some [] := by
  unfold zeroOk at h
  split at h
  · rename_i j h1
    split at h
    · rename_i z h2
      split at h
      · rename_i h3
        exact ⟨j, z, h1, h2, h3⟩
      · cases h
    · cases h
  · cases h
theorem fieldsOk_ok {P : Program} {ty : Ty} : ∀ (fs : List Field) (j : Nat), fieldsOk P ty j fs = true → ∀ i f, fs[i]? = some f → ∃ u, offT (fstep ty (j + i)) ty = some (f.offset, u) ∧ ElemOk P f.type u := by
  intro fs
  induction fs with
  | nil => intro j _ i f h; simp at h
  | cons g r ih =>
    intro j h i f hi
    simp only [fieldsOk, Bool.and_eq_true] at h
    cases i with
    | zero =>
      simp at hi
      subst hi
      have h1 := h.1
      split at h1
      · rename_i x hx
        simp only [Bool.and_eq_true, beq_iff_eq] at h1
        exact ⟨x.2, by rw [Nat.add_zero, hx, ← h1.1], elemOk_ok h1.2⟩
      · cases h1
    | succ i =>
      have := ih (j + 1) h.2 i f (by simpa using hi)
      rwa [show j + 1 + i = j + (i + 1) by omega] at this
theorem tiOk_ok {P : Program} {t : TypeId} {i : TI} (h : tiOk P t i = true) : TIok P t i := by
  unfold tiOk at h
  simp only [Bool.and_eq_true] at h
  obtain ⟨⟨⟨⟨h0, h1⟩, h2⟩, ha⟩, h3⟩ := h
  refine ⟨(fun e => by rw [e] at h0; cases h0), elemOk0_ok h1, zeroOk_ok h2, ha, ?_⟩
  cases hd : P.underlying t with
  | none => rw [hd] at h3; cases h3
  | some d =>
    rw [hd] at h3
    refine ⟨d, rfl, ?_⟩
    cases ht : i.ty with
    | int k => rw [ht] at h3; cases d <;> simp_all
    | bool => rw [ht] at h3; cases d <;> simp_all
    | str => rw [ht] at h3; cases d <;> simp_all
    | ifc => rw [ht] at h3; cases d <;> simp_all
    | op => rw [ht] at h3; cases d <;> simp_all [NotI]
    | slice u =>
      rw [ht] at h3
      cases d with
      | slice e =>
        simp only [Bool.and_eq_true, beq_iff_eq] at h3
        obtain ⟨⟨⟨⟨rfl, h4⟩, h5⟩, h6⟩, h7⟩ := h3
        obtain ⟨j, z, h8, h9, h10⟩ := zeroOk_ok h5
        rw [h8] at h7
        simp only [Bool.and_eq_true, beq_iff_eq] at h7
        exact ⟨rfl, elemOk_ok h4, j, z, h8, h7.1, blt_iff.1 h7.2, h9, h10, h6⟩
      | _ => simp at h3
    | array n u =>
      rw [ht] at h3
      cases d with
      | array n' e =>
        simp only [Bool.and_eq_true, beq_iff_eq] at h3
        exact ⟨e, by rw [h3.1], elemOk_ok h3.2⟩
      | _ => simp at h3
    | unit =>
      rw [ht] at h3
      cases d with
      | struct fs =>
        simp only [Bool.and_eq_true, beq_iff_eq] at h3
        exact ⟨fs, rfl, h3.1, fun j f hf => by simpa using fieldsOk_ok fs.toList 0 h3.2 j f (by simpa using hf)⟩
      | _ => simp at h3
    | cons a b =>
      rw [ht] at h3
      cases d with
      | struct fs =>
        simp only [Bool.and_eq_true, beq_iff_eq] at h3
        exact ⟨fs, rfl, h3.1, fun j f hf => by simpa using fieldsOk_ok fs.toList 0 h3.2 j f (by simpa using hf)⟩
      | _ => simp at h3
    | flt =>
      rw [ht] at h3
      cases d with
      | struct fs =>
        simp only [Bool.and_eq_true, beq_iff_eq] at h3
        exact ⟨fs, rfl, h3.1, fun j f hf => by simpa using fieldsOk_ok fs.toList 0 h3.2 j f (by simpa using hf)⟩
      | _ => simp at h3

theorem TIok.withCmp {P : Program} {t : TypeId} {i : TI} (h : TIok P t i) (c : EqOk P t i.ty) : TIok P t { i with cmp := true } := ⟨fun _ => c, h.el, h.zero, h.arr, h.und⟩

/-! ### Zero values -/
theorem zcell_ok {w : World} {RO : Nat → Nat → Prop} {t : Ty} {v : Value} (h : zcell t v = true) : RepT w RO t (zeroT t) [v] := by
  cases t <;> cases v <;> first | (exfalso; revert h; simp [zcell]; done) | skip
  · simp [zcell] at h; obtain ⟨rfl, rfl⟩ := h; exact ⟨trivial, Reps.one (.int _ _)⟩
  · simp [zcell] at h; subst h; exact ⟨trivial, Reps.one (.bool _)⟩
  · rename_i s
    have : s = ⟨([] : List UInt8).toArray⟩ := by
      cases s with
      | mk d => simp [zcell] at h; simp [h]
    rw [this]
    exact ⟨trivial, Reps.one (.str [] (by simp))⟩
  · exact ⟨rfl, Reps.one .nilI⟩
  · rename_i a n c
    rcases a with _ | a <;> rcases n with _ | n <;> rcases c with _ | c <;> first | (exfalso; revert h; simp [zcell]; done) | skip
    exact ⟨fun x hx => by simp [zeroT] at hx, by simp only [enc, zeroT]; exact Reps.one (.sl0 _ _ rfl)⟩
theorem zchk_ok {w : World} {RO : Nat → Nat → Prop} : ∀ (t : Ty) (vs r : List Value), noOp t = true → zchk t vs = some r → ∃ us, vs = us ++ r ∧ RepT w RO t (zeroT t) us := by
  intro t
  induction t with
  | cons a b iha ihb =>
    intro vs r hn h
    simp only [noOp, Bool.and_eq_true] at hn
    simp only [zchk, Option.bind_eq_some_iff] at h
    obtain ⟨m, h1, h2⟩ := h
    obtain ⟨us, rfl, h3⟩ := iha vs m hn.1 h1
    obtain ⟨ts, rfl, h4⟩ := ihb m r hn.2 h2
    exact ⟨us ++ ts, by simp, ⟨⟨h3.1, h4.1⟩, h3.2.append h4.2⟩⟩
  | unit =>
    intro vs r _ h
    simp only [zchk, Option.some.injEq] at h
    subst h
    exact ⟨[], rfl, trivial, Reps.nil⟩
  | array n t ih =>
    intro vs r hn h
    have key : ∀ (n : Nat) (r : List Value), (Nat.rec (some vs) (fun _ r => r.bind (zchk t)) n : Option (List Value)) = some r → ∃ us, vs = us ++ r ∧ RepT w RO (.array n t) (List.replicate n (zeroT t)) us := by
      intro n
      induction n with
      | zero =>
        intro r h
        have h : some vs = some r := h
        injection h with h
        subst h
        exact ⟨[], rfl, ⟨rfl, by simp⟩, by simp only [enc]; exact Reps.nil⟩
      | succ n ihn =>
        intro r h
        have h : ((Nat.rec (some vs) (fun _ r => r.bind (zchk t)) n : Option (List Value)).bind (zchk t)) = some r := h
        rw [Option.bind_eq_some_iff] at h
        obtain ⟨m, h1, h2⟩ := h
        obtain ⟨us, e, h3⟩ := ihn m h1
        obtain ⟨ts, rfl, h4⟩ := ih m r hn h2
        refine ⟨us ++ ts, by simp [e], ⟨by simp, fun x hx => ?_⟩, ?_⟩
        · rw [List.eq_of_mem_replicate hx]; exact h4.1
        · have e1 : enc (.array (n + 1) t) (List.replicate (n + 1) (zeroT t)) = enc (.array n t) (List.replicate n (zeroT t)) ++ enc t (zeroT t) := by
            simp only [enc]
            rw [List.replicate_succ', List.flatMap_append]
            simp
          rw [e1]
          exact h3.2.append h4.2
    exact key n r h
  | flt =>
    intro vs r _ h
    unfold zchk at h
    split at h <;> try (cases h; done)
    all_goals (try (rename_i e; cases e; done))
    all_goals (try (rename_i e _ ; cases e; done))
    rename_i v r' _
    split at h
    · rename_i hz
      injection h with h
      subst h
      have := zcell_ok (w := w) (RO := RO) hz
      refine ⟨[.int .i64 0, .int .i64 0, .int .i64 0, .int .i64 0, v, .slice none 0 0], rfl, trivial, ?_⟩
      simp only [enc, zeroT, encFlt, encFlts]
      exact (Reps.one (.int _ _)).append ((Reps.one (.int _ _)).append ((Reps.one (.int _ _)).append ((Reps.one (.int _ _)).append (this.2.append (Reps.one (.sl0 _ _ rfl))))))
    · cases h
  | op => intro vs r hn; simp [noOp] at hn
  | _ =>
    intro vs r _ h
    cases vs with
    | nil => simp [zchk] at h
    | cons v vs =>
      simp only [zchk] at h
      split at h
      · rename_i hz
        injection h with h
        subst h
        exact ⟨[v], rfl, zcell_ok hz⟩
      · cases h
theorem zeroA_ok {C : Ctx} : ∀ (t : Ty) (vs r : List Value), arrOk t = true → zchk t vs = some r → ∃ us, vs = us ++ r ∧ RC C (zeroA t) us := by
  intro t
  induction t with
  | cons a b iha ihb =>
    intro vs r hn h
    simp only [arrOk, Bool.and_eq_true] at hn
    simp only [zchk, Option.bind_eq_some_iff] at h
    obtain ⟨m, h1, h2⟩ := h
    obtain ⟨us, rfl, h3⟩ := iha vs m hn.1 h1
    obtain ⟨ts, rfl, h4⟩ := ihb m r hn.2 h2
    exact ⟨us ++ ts, by simp, us, ts, rfl, h3, h4⟩
  | op =>
    intro vs r _ h
    unfold zchk at h
    split at h <;> try (cases h; done)
    all_goals (try (rename_i e; cases e; done))
    all_goals (try (rename_i e _ ; cases e; done))
    · injection h with h
      subst h
      exact ⟨[_], rfl, _, rfl, rfl, rfl⟩
    · injection h with h
      subst h
      exact ⟨[_], rfl, _, rfl, rfl, rfl⟩
  | slice u =>
    intro vs r _ h
    cases vs with
    | nil => simp [zchk] at h
    | cons v vs =>
      simp only [zchk] at h
      split at h
      · rename_i hz
        injection h with h
        subst h
        refine ⟨[v], rfl, ?_⟩
        cases v <;> first | (exfalso; revert hz; simp [zcell]; done) | skip
        rename_i a n c
        rcases a with _ | a <;> rcases n with _ | n <;> rcases c with _ | c <;> first | (exfalso; revert hz; simp [zcell]; done) | skip
        exact ⟨none, rfl, rfl⟩
      · cases h
  | unit => intro vs r _ h; exact ⟨[], by simp [zchk] at h; simp [h], rfl⟩
  | array n u => intro vs r hn h; exact zchk_ok (w := C.w) (RO := C.RO) (.array n u) vs r hn h
  | int k => intro vs r _ h; exact zchk_ok (w := C.w) (RO := C.RO) _ vs r rfl h
  | bool => intro vs r _ h; exact zchk_ok (w := C.w) (RO := C.RO) _ vs r rfl h
  | str => intro vs r _ h; exact zchk_ok (w := C.w) (RO := C.RO) _ vs r rfl h
  | ifc => intro vs r _ h; exact zchk_ok (w := C.w) (RO := C.RO) _ vs r rfl h
  | flt => intro vs r _ h; exact zchk_ok (w := C.w) (RO := C.RO) _ vs r rfl h
theorem zeroA_fits (t : Ty) : fits (zeroA t) t = true := by
  induction t with
  | cons a b iha ihb => simp [zeroA, fits, iha, ihb]
  | _ => simp [zeroA, fits]
end Go.Proofs.Cdm
