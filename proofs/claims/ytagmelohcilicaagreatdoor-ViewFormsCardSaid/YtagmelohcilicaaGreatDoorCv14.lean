/-
Operations, seventh part: what is built, appended, converted, compared.
-/
import Derived.Test.YtagmelohcilicaaGreatDoorCv13
import Derived.Great.BuildSlice
import Derived.Laws.MakeOwn
import Derived.Laws.BytesArg
import Derived.Laws.IdiomStrings
namespace Go.Proofs.Cdm
open Go Go.RowKit
variable {E : Env} {O : Old} {st : St} {a : Act} {C : Ctx}

theorem rsteps_nf : ∀ (j : Nat) (t : Ty), offT (rsteps j) t ≠ none → j < t.nf
  | 0, t, h => by cases t <;> simp_all [rsteps, offT, Ty.nf]
  | j + 1, t, h => by
    cases t with
    | cons a b =>
      have : offT (rsteps j) b ≠ none := by
        intro e
        apply h
        simp [rsteps, offT, e]
      have := rsteps_nf j b this
      simp only [Ty.nf]; omega
    | _ => simp [rsteps, offT] at h
theorem mapM_some {α β : Type} {f : α → Option β} : ∀ (l : List α), (∀ x ∈ l, ∃ y, f x = some y) → ∃ ys, l.mapM f = some ys ∧ ys.length = l.length ∧ ∀ (i : Nat) (x : α), l[i]? = some x → ∃ y, ys[i]? = some y ∧ f x = some y
  | [], _ => ⟨[], rfl, rfl, by simp⟩
  | x :: l, h => by
    obtain ⟨y, hy⟩ := h x (by simp)
    obtain ⟨ys, h1, h2, h3⟩ := mapM_some l (fun z hz => h z (by simp [hz]))
    refine ⟨y :: ys, by simp [List.mapM_cons, hy, h1], by simp [h2], fun i z hz => ?_⟩
    cases i with
    | zero => simp at hz; subst hz; exact ⟨y, rfl, hy⟩
    | succ i => simpa using h3 i z (by simpa using hz)
theorem zip_fst {α β : Type} : ∀ (l : List α) (m : List β), l.length = m.length → (l.zip m).map (·.1) = l ∧ (l.zip m).map (·.2) = m
  | [], [], _ => ⟨rfl, rfl⟩
  | _ :: l, _ :: m, h => by
    have := zip_fst l m (by simpa using h)
    exact ⟨by simp [this.1], by simp [this.2]⟩
  | [], _ :: _, h => by simp at h
  | _ :: _, [], h => by simp at h

theorem build_ok {o : Oper} {t : TypeId} {ps : Array (Nat × Operand)} {p : Pend} (hT : ∀ t i, E.T t = some i → TIok E.P t i) (hi : Inv O st a C) (ho : o.op = .build t ps) (h : (opQ E o).ev st = some p) : OpOk E O o a C p := by
  unfold opQ at h
  rw [ho] at h
  have hq_ := ty_ev h
  clear h
  obtain ⟨i, ht, h⟩ := hq_
  have hagg := (chk_ev h).1
  replace h := (chk_ev h).2
  have hq_ := opds_sound hi h
  clear h
  obtain ⟨vs, h, hvs⟩ := hq_
  have ok := hT t i ht
  obtain ⟨j, z, hj, hz, hzc⟩ := ok.zero
  obtain ⟨us, e, hz2⟩ := zeroA_ok (C := C) i.ty _ _ ok.arr hzc
  rw [List.append_nil] at e
  obtain ⟨d, hd, hu⟩ := ok.und
  have hlen := hvs.length
  simp only [List.length_map] at hlen
  have hzip := zip_fst (ps.toList.map (·.1)) vs (by simp [hlen])
  -- the places
  have main : ∃ place, (∀ (xs : List (Nat × Value)) cells, Instr.fill place z.cells xs = some cells → E.P.built t xs = some cells) ∧
      (∀ j o' u, (match i.ty with | .flt => offT [.f j] .flt | .array n s => offT [.i j] (.array n s) | ty => offT (rsteps j) ty) = some (o', u) → place j = some (o', u.size)) := by
    have str : ∀ fs : Array Field, d = .struct fs → fs.size = i.ty.nf → (∀ j f, fs[j]? = some f → ∃ u, offT (fstep i.ty j) i.ty = some (f.offset, u) ∧ ElemOk E.P f.type u) →
        (∀ j q, (match i.ty with | .flt => offT [.f j] .flt | .array n s => offT [.i j] (.array n s) | ty => offT (rsteps j) ty) = some q → j < i.ty.nf ∧ offT (fstep i.ty j) i.ty = some q) →
        ∃ place, (∀ (xs : List (Nat × Value)) cells, Instr.fill place z.cells xs = some cells → E.P.built t xs = some cells) ∧
          (∀ j o' u, (match i.ty with | .flt => offT [.f j] .flt | .array n s => offT [.i j] (.array n s) | ty => offT (rsteps j) ty) = some (o', u) → place j = some (o', u.size)) := by
      intro fs hdf hsz hf hq
      obtain ⟨places, h1, h2, h3⟩ := mapM_some (f := fun f : Field => (E.P.info? f.type).map fun i => (f.offset, i.size)) fs.toList (fun f hf' => by
        obtain ⟨k, hk⟩ := List.mem_iff_getElem?.1 hf'
        obtain ⟨u, _, he⟩ := hf k f (by simpa using hk)
        obtain ⟨ji, hji, _⟩ := he.inf
        exact ⟨_, by simp [hji]; rfl⟩)
      refine ⟨(places.toArray[·]?), fun xs cells hx => ?_, fun j o' u hju => ?_⟩
      · unfold Program.built
        simp only [hj, hd, hdf, hz, h1, hx]
      · obtain ⟨h4, h5⟩ := hq j _ hju
        have hjs : j < fs.size := by omega
        obtain ⟨y, h6, h7⟩ := h3 j fs[j] (by simp [hjs])
        obtain ⟨u', h8, he⟩ := hf j fs[j] (by simp [hjs])
        rw [h5] at h8
        simp only [Option.some.injEq, Prod.mk.injEq] at h8
        obtain ⟨h9, h10⟩ := h8
        obtain ⟨ji, hji, hjs'⟩ := he.inf
        rw [hji] at h7
        simp only [Option.map_some, Option.some.injEq] at h7
        rw [← h7, hjs', ← h9, ← h10] at h6
        simpa using h6
    cases hty : i.ty with
    | array n s =>
      rw [hty] at hu
      obtain ⟨e', rfl, hel⟩ := hu
      obtain ⟨je, h1, h2⟩ := hel.inf
      refine ⟨fun j => some (j * je.size, je.size), fun xs cells hx => ?_, fun j o' u hju => ?_⟩
      · unfold Program.built
        simp only [hj, hd, hz, h1, hx]
      · simp only [offT] at hju
        cases hb : Nat.blt j n with
        | false => rw [hb] at hju; cases hju
        | true =>
          rw [hb] at hju
          simp only [cond_true, Option.map_some, Option.some.injEq, Prod.mk.injEq, Nat.add_zero] at hju
          obtain ⟨rfl, rfl⟩ := hju
          rw [h2]
    | flt =>
      rw [hty] at hu str
      obtain ⟨fs, h1, h2, h3⟩ := hu
      refine str fs h1 h2 h3 (fun j q hq => ⟨?_, hq⟩)
      rcases j with _ | _ | _ | _ | _ | _ | j <;> simp_all [offT, Ty.nf]
    | cons b c =>
      rw [hty] at hu str
      obtain ⟨fs, h1, h2, h3⟩ := hu
      exact str fs h1 h2 h3 (fun j q hq => ⟨rsteps_nf _ _ (by simp only at hq; rw [hq]; simp), hq⟩)
    | unit =>
      rw [hty] at hu str
      obtain ⟨fs, h1, h2, h3⟩ := hu
      exact str fs h1 h2 h3 (fun j q hq => ⟨rsteps_nf _ _ (by simp only at hq; rw [hq]; simp), hq⟩)
    | _ => rw [hty] at hagg; simp [Ty.isAgg] at hagg
  obtain ⟨place, hb, hplace⟩ := main
  obtain ⟨v', m', cs', h1, h2, h3, h4, h5⟩ := fill_sound (P := E.P) (t := t) hi hplace _ (ps.toList.map fun x => (x.1, a.eval x.2)) (zeroA i.ty) [] z.cells _ p
    (by rw [hzip.1, List.map_map]; rfl)
    (by rw [hzip.2, List.map_map]; rw [List.map_map] at hvs; exact hvs) (zeroA_fits _) (Valid.nil C) (by rw [e]; exact hz2.ext (Ext.mark (Valid.nil C))) h
  have hrun := run_build C.w t (ps.map fun (i, x) => (i, a.eval x)) cs' (hb _ _ (by rw [← h2]; congr 1; simp))
  refine put1_mark hi h1 h4 (.agg cs') (by simp only [execOp, ho, Sem.run_bind, hrun, Result.andThen_ok, Sem.run_pure]) (.inr ⟨cs'.toList, h5, ?_⟩)
  rw [fits_agg h3, hagg]
  simp [pack]
end Go.Proofs.Cdm
