/-
Operations, third part: structs, interfaces, functions, numbers and strings.
-/
import Derived.Test.YtagmelohcilicaaGreatDoorCv9
import Derived.Laws.Concat
import Derived.Laws.Strings2
import Derived.Laws.BytesArg
import Derived.Laws.Cover1
namespace Go.Proofs.Cdm
open Go Go.RowKit
variable {E : Env} {O : Old} {st : St} {a : Act} {C : Ctx}

theorem offT_append : ∀ (p q : List Stp) (s t u : Ty) (o o' : Nat), offT p s = some (o, t) → offT q t = some (o', u) → offT (p ++ q) s = some (o + o', u) := by
  intro p
  induction p with
  | nil => intro q s t u o o' h1 h2; simp [offT] at h1; obtain ⟨rfl, rfl⟩ := h1; simpa using h2
  | cons x p ih =>
    intro q s t u o o' h1 h2
    cases x with
    | l =>
      cases s with
      | cons a b => simp only [List.cons_append, offT] at h1 ⊢; exact ih _ _ _ _ _ _ h1 h2
      | _ => simp [offT] at h1
    | r =>
      cases s with
      | cons a b =>
        simp only [List.cons_append, offT, Option.map_eq_some_iff, Prod.mk.injEq] at h1 ⊢
        obtain ⟨⟨o1, t1⟩, h1, rfl, rfl⟩ := h1
        exact ⟨_, ih _ _ _ _ _ _ h1 h2, by simp; omega, rfl⟩
      | _ => simp [offT] at h1
    | i n =>
      cases s with
      | array m b =>
        simp only [List.cons_append, offT, Bool.cond_eq_ite] at h1 ⊢
        split at h1
        · rename_i hn
          rw [if_pos hn]
          simp only [Option.map_eq_some_iff, Prod.mk.injEq] at h1 ⊢
          obtain ⟨⟨o1, t1⟩, h1, rfl, rfl⟩ := h1
          exact ⟨_, ih _ _ _ _ _ _ h1 h2, by simp; omega, rfl⟩
        · cases h1
      | _ => simp [offT] at h1
    | f j =>
      cases s with
      | flt =>
        cases p with
        | cons => simp [offT] at h1
        | nil =>
          have hq : ∀ z, t = .int .i64 ∨ t = .str ∨ t = .slice z → q = [] ∧ o' = 0 ∧ u = t := by
            intro z hz
            cases q with
            | nil => simp [offT] at h2; exact ⟨rfl, h2.1.symm, h2.2.symm⟩
            | cons y q => rcases hz with rfl | rfl | rfl <;> cases y <;> simp [offT] at h2
          match j with
          | 0 | 1 | 2 | 3 =>
            simp [offT] at h1
            obtain ⟨rfl, rfl⟩ := h1
            obtain ⟨rfl, rfl, rfl⟩ := hq .unit (.inl rfl)
            rfl
          | 4 =>
            simp [offT] at h1
            obtain ⟨rfl, rfl⟩ := h1
            obtain ⟨rfl, rfl, rfl⟩ := hq .unit (.inr (.inl rfl))
            rfl
          | 5 =>
            simp [offT] at h1
            obtain ⟨rfl, rfl⟩ := h1
            obtain ⟨rfl, rfl, rfl⟩ := hq .flt (.inr (.inr rfl))
            rfl
          | j + 6 => simp [offT] at h1
      | _ => simp [offT] at h1

theorem structInfo {P : Program} {t : TypeId} {i : TI} (ok : TIok P t i) {j : Nat} (hj : j < i.ty.nf) : ∃ fs fl u, P.underlying t = some (.struct fs) ∧ fs[j]? = some fl ∧ offT (fstep i.ty j) i.ty = some (fl.offset, u) ∧ ElemOk P fl.type u ∧ i.ty.isAgg = true := by
  obtain ⟨d, hd, hu⟩ := ok.und
  have key : (∃ fs : Array Field, d = .struct fs ∧ fs.size = i.ty.nf ∧ ∀ j f, fs[j]? = some f → ∃ u, offT (fstep i.ty j) i.ty = some (f.offset, u) ∧ ElemOk P f.type u) → i.ty.isAgg = true →
      ∃ fs fl u, P.underlying t = some (.struct fs) ∧ fs[j]? = some fl ∧ offT (fstep i.ty j) i.ty = some (fl.offset, u) ∧ ElemOk P fl.type u ∧ i.ty.isAgg = true := by
    rintro ⟨fs, rfl, h1, h2⟩ ha
    have : j < fs.size := by omega
    obtain ⟨u, h3, h4⟩ := h2 j fs[j] (Array.getElem?_eq_getElem this)
    exact ⟨fs, fs[j], u, hd, Array.getElem?_eq_getElem this, h3, h4, ha⟩
  cases hty : i.ty with
  | cons x y => rw [hty] at hu key hj; rw [← hty] at key ⊢; rw [← hty] at hu; exact (by rw [hty] at key ⊢; exact key (by rw [hty] at hu; exact hu) rfl)
  | flt => rw [hty] at hu key; exact key hu rfl
  | _ => rw [hty] at hj; simp [Ty.nf] at hj

theorem fieldAddr_ok {o : Oper} {t : TypeId} {x : Operand} {j : Nat} {p : Pend} (hT : ∀ t i, E.T t = some i → TIok E.P t i) (hi : Inv O st a C) (ho : o.op = .fieldAddr t x j) (h : (opQ E o).ev st = some p) : OpOk E O o a C p := by
  unfold opQ at h
  rw [ho] at h
  have hq_ := opd_sound hi h
  clear h
  obtain ⟨v, h, hv⟩ := hq_
  unfold fieldAddrQ at h
  have hq_ := ty_ev h
  clear h
  obtain ⟨i, ht, h⟩ := hq_
  cases hq : offT (fstep i.ty j) i.ty with
  | none => rw [hq] at h; simp [Q.ev] at h
  | some q =>
    rw [hq] at h
    have hj := (chk_ev h).1
    replace h := (chk_ev h).2
    obtain ⟨fs, fl, u, h1, h2, h3, h4, _⟩ := structInfo (hT t i ht) hj
    rw [hq] at h3
    injection h3 with h3
    subst h3
    obtain ⟨fj, h5, h6⟩ := h4.inf
    have run : ∀ ad, a.eval x = .pointer (some ad) → (execOp a.eval o).run E.P C.w = .ok (.value (.pointer (some (ad.add fl.offset)))) C.w := by
      intro ad he
      have hz : fj.size ≠ 0 := by have := h4.pos; omega
      simp only [execOp, ho, Instr.fieldAt, Sem.run_bind, run_underlying h1, Result.andThen_ok, h2, he, Instr.sureAddr, Sem.run_pure, fieldPlace, run_sizeOf' h5, if_neg hz]
    cases v with
    | ptr d q' s =>
      have hs := (chk_ev h).1
      replace h := (chk_ev h).2
      subst hs
      obtain ⟨cs, ⟨ad, rfl, hdom, hp⟩, e⟩ := hv.rc (by simp)
      simp only [AV.agg, pack, Bool.false_eq_true, if_false, List.headD_cons] at e
      refine put1_same hi h _ (run ad e) (.inr ⟨[_], ⟨_, rfl, hdom, fun t w hl => ?_⟩, rfl⟩)
      obtain ⟨off, h7, rfl⟩ := hp _ _ hl
      exact ⟨off + fl.offset, offT_append _ _ _ _ _ _ _ h7 hq, by rw [Addr.add_lit]⟩
    | pel d g n q' s =>
      have hs := (chk_ev h).1
      replace h := (chk_ev h).2
      subst hs
      obtain ⟨cs, ⟨ad, rfl, hdom, hp⟩, e⟩ := hv.rc (by simp)
      simp only [AV.agg, pack, Bool.false_eq_true, if_false, List.headD_cons] at e
      refine put1_same hi h _ (run ad e) (.inr ⟨[_], ⟨_, rfl, hdom, fun t e' g' ex l hl => ?_⟩, rfl⟩)
      obtain ⟨hg, hp⟩ := hp _ _ _ _ _ hl
      refine ⟨hg, fun hgg => ?_⟩
      obtain ⟨hn, off, b, c, h7, h8, rfl⟩ := hp hgg
      exact ⟨hn, off + fl.offset, b, c, offT_append _ _ _ _ _ _ _ h7 hq, h8, by rw [Addr.add_lit, Nat.add_assoc]⟩
    | rpt s y =>
      have hs := (chk_ev h).1
      replace h := (chk_ev h).2
      subst hs
      obtain ⟨cs, ⟨b, of, us, rfl, hr, hc⟩, e⟩ := hv.rc (by simp)
      simp only [AV.agg, pack, Bool.false_eq_true, if_false, List.headD_cons] at e
      obtain ⟨off, u', z, h7, h8, h9, h10⟩ := getT_part _ _ _ _ hr.1 h
      rw [hq] at h7
      simp only [Option.some.injEq, Prod.mk.injEq] at h7
      obtain ⟨rfl, rfl⟩ := h7
      refine put1_same hi h8 _ (run _ e) (.inr ⟨[_], ⟨b, of + fl.offset, (us.drop fl.offset).take u.size, by rw [Addr.add_lit], ⟨h9, by rw [h10]; exact hr.2.sub _ _⟩, fun k w hk => ?_⟩, rfl⟩)
      have := hc _ _ (getElem?_drop_take _ _ _ _ _ hk)
      rwa [← Nat.add_assoc] at this
    | _ => simp [Q.ev] at h

theorem pack_sub (u : Ty) (cs : List Value) (off : Nat) (hs : 0 < u.size) (hl : off + u.size ≤ cs.length) {P : Program} {t : TypeId} (ok : ElemOk P t u) (w : World) :
    (part t cs.toArray off).run P w = .ok (pack u.isAgg ((cs.drop off).take u.size)) w := by
  obtain ⟨d, hd, ha⟩ := ok.und
  obtain ⟨j, hj, hjs⟩ := ok.inf
  unfold part
  simp only [Sem.run_bind, run_isAgg' hd, Result.andThen_ok, ha]
  cases hu : u.isAgg with
  | true =>
    simp only [if_true, Sem.run_bind, run_sizeOf' hj, Result.andThen_ok, Sem.run_pure, pack, hjs]
    congr 2
    simp [List.extract_eq_take_drop]
  | false =>
    have h1 : u.size = 1 := by cases u <;> simp_all [Ty.isAgg, Ty.size]
    simp only [Bool.false_eq_true, if_false, pack, h1]
    have : off < cs.length := by omega
    rw [List.getElem?_toArray, List.getElem?_eq_getElem this]
    simp only [Sem.run_pure]
    rw [List.drop_eq_getElem_cons this]
    rfl
theorem field_ok {o : Oper} {t : TypeId} {x : Operand} {j : Nat} {p : Pend} (hT : ∀ t i, E.T t = some i → TIok E.P t i) (hi : Inv O st a C) (ho : o.op = .field t x j) (h : (opQ E o).ev st = some p) : OpOk E O o a C p := by
  unfold opQ at h
  rw [ho] at h
  have hq_ := opd_sound hi h
  clear h
  obtain ⟨v, h, hv⟩ := hq_
  have hq_ := ty_ev h
  clear h
  obtain ⟨i, ht, h⟩ := hq_
  have hj := (chk_ev h).1
  replace h := (chk_ev h).2
  obtain ⟨fs, fl, u, h1, h2, h3, h4, hagg⟩ := structInfo (hT t i ht) hj.1
  obtain ⟨cs, hr, e⟩ := hv.rc (by rintro rfl; have := hj.2; cases i.ty <;> simp [fits] at this)
  obtain ⟨off, u', w, h5, h6, h7, h8⟩ := getA_part _ _ _ _ _ hj.2 hr h
  rw [h3] at h5
  simp only [Option.some.injEq, Prod.mk.injEq] at h5
  obtain ⟨rfl, rfl⟩ := h5
  have hl := fits_length v _ cs hj.2 hr
  have hle := offT_le _ _ _ _ h3
  rw [fits_agg hj.2, hagg] at e
  simp only [pack, if_true] at e
  exact put1_same hi h6 (pack u.isAgg ((cs.drop fl.offset).take u.size)) (by simp only [execOp, ho, Instr.field, Sem.run_bind, run_underlying h1, Result.andThen_ok, h2, e, asAgg, Sem.run_pure, pack_sub u cs fl.offset h4.pos (by omega) h4]) (.inr ⟨_, h8, by rw [fits_agg h7]⟩)

theorem chain_ok {C : Ctx} : ∀ {vs : List AV} {xs : List Value}, RAs C vs xs → RCm C true (vs.foldr .pair .unit) xs
  | [], [], _ => rfl
  | v :: vs, x :: xs, h => by
    rw [List.foldr_cons, RCm_pair]
    exact ⟨x, xs, rfl, h.1, chain_ok h.2⟩
theorem chain_get {C : Ctx} : ∀ {a : AV} {us : List Value} {j : Nat} {u : AV}, RCm C true a us → (chain a)[j]? = some u → ∃ val, us[j]? = some val ∧ RA C u val := by
  intro a
  induction a with
  | pair a b _ ih =>
    intro us j u h hj
    rw [RCm_pair] at h
    obtain ⟨v, vs, rfl, h1, h2⟩ := h
    cases j with
    | zero =>
      simp [chain] at hj
      subst hj
      exact ⟨v, rfl, h1⟩
    | succ j =>
      obtain ⟨val, e1, e2⟩ := ih h2 (show (chain b)[j]? = some u by simpa [chain] using hj)
      exact ⟨val, by simpa using e1, e2⟩
  | _ => intro us j u h hj; simp [chain] at hj
theorem makeFunc_ok {o : Oper} {f : FuncId} {first caps : Array Operand} {p : Pend} (hi : Inv O st a C) (ho : o.op = .makeFunc (.func f) first caps) (h : (opQ E o).ev st = some p) : OpOk E O o a C p := by
  unfold opQ at h
  rw [ho] at h
  have hq_ := opds_sound hi h
  clear h
  obtain ⟨vs, h, hv⟩ := hq_
  have hq_ := opds_sound hi h
  clear h
  obtain ⟨us, h, hu⟩ := hq_
  refine put1_same hi h (.func (.func f) (first.map a.eval) (caps.map a.eval)) (by simp [execOp, ho, Instr.makeFunc]) (.inr ⟨[_], ⟨_, _, ?_, chain_ok hv, chain_ok hu⟩, rfl⟩)
  congr 2 <;> (apply Array.ext'; simp)
theorem extract_ok {o : Oper} {x : Operand} {j : Nat} {p : Pend} (hi : Inv O st a C) (ho : o.op = .extract x j) (h : (opQ E o).ev st = some p) : OpOk E O o a C p := by
  unfold opQ at h
  rw [ho] at h
  have hq_ := opd_sound hi h
  clear h
  obtain ⟨v, h, hv⟩ := hq_
  cases v with
  | tup b =>
    obtain ⟨cs, ⟨us, rfl, hr⟩, e⟩ := hv.rc (by simp)
    simp only [AV.agg, pack, Bool.false_eq_true, if_false, List.headD_cons] at e
    cases hj : (chain b)[j]? with
    | none => simp only [hj] at h; simp [Q.ev] at h
    | some u =>
      simp only [hj] at h
      obtain ⟨val, h1, h2⟩ := chain_get hr hj
      exact put1_same hi h val (by simp [execOp, ho, Instr.extract, e, h1]) h2
  | _ => simp [Q.ev] at h

theorem run_makeInterface {P : Program} {t : TypeId} {d : TypeDesc} (h : P.underlying t = some d) (hn : NotI d) (v : Value) (w : World) : (Instr.makeInterface t v).run P w = .ok (.iface t v) w := by
  unfold Instr.makeInterface
  simp only [Sem.run_bind, run_underlying h, Result.andThen_ok]
  cases d <;> first | exact hn.elim | rfl
theorem makeInterface_ok {o : Oper} {t : TypeId} {x : Operand} {p : Pend} (hT : ∀ t i, E.T t = some i → TIok E.P t i) (hi : Inv O st a C) (ho : o.op = .makeInterface t x) (h : (opQ E o).ev st = some p) : OpOk E O o a C p := by
  unfold opQ at h
  rw [ho] at h
  have hq_ := opd_sound hi h
  clear h
  obtain ⟨v, h, hv⟩ := hq_
  have hq_ := ty_ev h
  clear h
  obtain ⟨i, ht, h⟩ := hq_
  have ok := hT t i ht
  obtain ⟨d, hd, hu⟩ := ok.und
  have main : ∀ (w : AV), RA C w (a.eval x) → i.ty ≠ .ifc → (toT i.ty w fun x m => put1 o (.ro .ifc (DV.ifc t i.ty.isAgg (enc i.ty x))) m).ev st = some p → OpOk E O o a C p := by
    intro w hw hne h
    have hn : NotI d := by
      cases hty : i.ty <;> rw [hty] at hu <;> try (simp at hu)
      all_goals first | (subst hu; trivial) | (obtain ⟨rfl, _⟩ := hu; trivial) | (obtain ⟨_, rfl, _⟩ := hu; trivial) | exact hu | exact absurd hty hne | skip
    have hagg := toT_agg h
    obtain ⟨cs, hr, e⟩ := hw.rc (by rintro rfl; cases i.ty <;> simp [toT, toT0, Q.ev] at h)
    have hq_ := toT_sound hi.si hi.c.wok w i.ty cs _ hr h
    clear h
    obtain ⟨y, m, h, hm, hy⟩ := hq_
    refine put1_mark hi h hm (.iface t (a.eval x)) (by simp only [execOp, ho, run_makeInterface hd hn, Sem.run_bind, Result.andThen_ok, Sem.run_pure]) (.inr ⟨[_], ⟨rfl, Reps.one ?_⟩, rfl⟩)
    rw [e, hagg]
    have hl := hy.2.1
    cases ha : i.ty.isAgg with
    | true => exact .ifcA t _ cs hl (fun k h1 h2 => hy.2.2 k h1 h2)
    | false =>
      have h1 : i.ty.size = 1 := by cases hty : i.ty <;> simp_all [Ty.isAgg, Ty.size]
      have hel := length_enc i.ty y hy.1
      rw [h1] at hel
      match hen : enc i.ty y, hel, cs, hl with
      | [dv], _, [c], _ =>
        have h3 := hy.2
        rw [hen] at h3
        have h4 := h3.2 0 (by simp) (by simp)
        simp only [pack, Bool.false_eq_true, if_false, List.headD_cons]
        exact .ifc t dv c h4.one.1 h4
      | [dv], _, [], hl => simp at hl
      | [dv], _, _ :: _ :: _, hl => simp at hl
  have h' : (match v with
    | .ptr d [] _ => Q.chk (i.ty = Ty.op) inferInstance (put1 o (.ipt t d) [])
    | _ => Q.chk (i.ty ≠ Ty.ifc) inferInstance (toT i.ty v fun x m => put1 o (.ro .ifc (DV.ifc t i.ty.isAgg (enc i.ty x))) m)).ev st = some p := by
    cases v with
    | ptr d q s => cases q <;> exact h
    | _ => exact h
  clear h
  by_cases hp : ∃ d s, v = .ptr d [] s
  · obtain ⟨d', s, rfl⟩ := hp
    have hop := (chk_ev h').1
    have h := (chk_ev h').2
    rw [hop] at hu
    obtain ⟨cs, ⟨ad, rfl, hdom, hq⟩, e⟩ := hv.rc (by simp)
    simp only [AV.agg, pack, Bool.false_eq_true, if_false, List.headD_cons] at e
    refine put1_same hi h (.iface t (a.eval x)) (by simp only [execOp, ho, run_makeInterface hd hu, Sem.run_bind, Result.andThen_ok, Sem.run_pure]) (.inr ⟨[_], ⟨ad, by rw [e], hdom, fun u w hl => ?_⟩, rfl⟩)
    obtain ⟨off, h1, rfl⟩ := hq _ _ hl
    simp only [offT, Option.some.injEq, Prod.mk.injEq] at h1
    rw [← h1.1]
  · have h'' : (Q.chk (i.ty ≠ Ty.ifc) inferInstance (toT i.ty v fun x m => put1 o (.ro .ifc (DV.ifc t i.ty.isAgg (enc i.ty x))) m)).ev st = some p := by
      cases v with
      | ptr d q s =>
        cases q with
        | nil => exact absurd ⟨d, s, rfl⟩ hp
        | cons => exact h'
      | _ => exact h'
    exact main v hv (chk_ev h'').1 (chk_ev h'').2

/-! ### Numbers and strings -/
theorem convert_int {P : Program} {s d : TypeId} {sd : TypeDesc} {j k : IntKind} (hs : P.underlying s = some sd) (hd : P.underlying d = some (.int j)) (n : Int) (w : World) : (convert s d (.int k n)).run P w = .ok (.int j (j.wrap n)) w := by
  unfold convert
  simp only [Sem.run_bind, run_underlying hs, run_underlying hd, Result.andThen_ok]
  cases sd <;> rfl
theorem intBin_ok {α : Type} {op : BinOp} {j : IntKind} {m n : Int} {k : AV → Q α} {r : α} {t : TypeId} {x y : Operand} {P : Program} {w : World} (h : (intBin op j m n k).ev st = some r) (hs : op ≠ .shl) (hs' : op ≠ .shr) :
    ∃ v val, (k v).ev st = some r ∧ RA C v val ∧ (do eqGuard op t x y (.int j m) (.int j n); binOp op t (.int j m) (.int j n) : Sem Value).run P w = .ok val w := by
  cases op <;> simp only [intBin] at h
  case quo =>
    have h1 := (chk_ev h).1
    exact ⟨_, _, (chk_ev h).2, .ofInt _ _, by simp [eqGuard_at_int, binOp_quo, Op.intDiv, h1]⟩
  case rem =>
    have h1 := (chk_ev h).1
    exact ⟨_, _, (chk_ev h).2, .ofInt _ _, by simp [eqGuard_at_int, binOp_rem, Op.intDiv, h1]⟩
  case add => exact ⟨_, _, h, .ofInt _ _, by simp [eqGuard_at_int, binOp_add, Op.intArith]⟩
  case sub => exact ⟨_, _, h, .ofInt _ _, by simp [eqGuard_at_int, binOp_sub, Op.intArith]⟩
  case mul => exact ⟨_, _, h, .ofInt _ _, by simp [eqGuard_at_int, binOp_mul, Op.intArith]⟩
  case and => exact ⟨_, _, h, .ofInt _ _, by simp [eqGuard_at_int, binOp_and, Op.intBits]⟩
  case or => exact ⟨_, _, h, .ofInt _ _, by simp [eqGuard_at_int, binOp_or, Op.intBits]⟩
  case xor => exact ⟨_, _, h, .ofInt _ _, by simp [eqGuard_at_int, binOp_xor, Op.intBits]⟩
  case eql => exact ⟨_, _, h, .ofBool _, by simp only [eqGuard_at_int, binOp_eql, Sem.run_bind, Sem.run_pure, Result.andThen_ok]; rfl⟩
  case neq => exact ⟨_, _, h, .ofBool _, by simp only [eqGuard_at_int, binOp_neq, Sem.run_bind, Sem.run_pure, Result.andThen_ok]; rfl⟩
  case lss => exact ⟨_, _, h, .ofBool _, by simp only [eqGuard_at_int, binOp_lss, Sem.run_bind, Sem.run_pure, Result.andThen_ok]⟩
  case leq => exact ⟨_, _, h, .ofBool _, by simp only [eqGuard_at_int, binOp_leq, Sem.run_bind, Sem.run_pure, Result.andThen_ok]⟩
  case gtr => exact ⟨_, _, h, .ofBool _, by simp only [eqGuard_at_int, binOp_gtr, Sem.run_bind, Sem.run_pure, Result.andThen_ok, gt_iff_lt]⟩
  case geq => exact ⟨_, _, h, .ofBool _, by simp only [eqGuard_at_int, binOp_geq, Sem.run_bind, Sem.run_pure, Result.andThen_ok, ge_iff_le]⟩
  case shl => exact absurd rfl hs
  case shr => exact absurd rfl hs'
  all_goals simp [Q.ev] at h
theorem shiftBin_ok {α : Type} {op : BinOp} {j j' : IntKind} {m n : Int} {k : AV → Q α} {r : α} {t : TypeId} {x y : Operand} {P : Program} {w : World} (h : (shiftBin op j m n k).ev st = some r) :
    ∃ v val, (k v).ev st = some r ∧ RA C v val ∧ (do eqGuard op t x y (.int j m) (.int j' n); binOp op t (.int j m) (.int j' n) : Sem Value).run P w = .ok val w := by
  cases op <;> simp only [shiftBin] at h
  case shl =>
    have h1 : ¬ n < 0 := by have := (chk_ev h).1; omega
    exact ⟨_, _, (chk_ev h).2, .ofInt _ _, by simp [eqGuard_at_int, binOp_shl, Op.shift, h1]⟩
  case shr =>
    have h1 : ¬ n < 0 := by have := (chk_ev h).1; omega
    exact ⟨_, _, (chk_ev h).2, .ofInt _ _, by simp [eqGuard_at_int, binOp_shr, Op.shift, h1]⟩
  all_goals simp [Q.ev] at h
theorem strBin_ok {α : Type} {op : BinOp} {m n : List UInt8} {k : AV → Q α} {r : α} {t : TypeId} {x y : Operand} {P : Program} {w : World} (h : (strBin op m n k).ev st = some r) :
    ∃ v val, (k v).ev st = some r ∧ RA C v val ∧ (do eqGuard op t x y (.string ⟨m.toArray⟩) (.string ⟨n.toArray⟩); binOp op t (.string ⟨m.toArray⟩) (.string ⟨n.toArray⟩) : Sem Value).run P w = .ok val w := by
  cases op <;> simp only [strBin] at h
  case add =>
    have h1 := (chk_ev h).1
    refine ⟨_, _, (chk_ev h).2, .ofStr _ (by simpa using h1), ?_⟩
    simp only [eqGuard_at_string, binOp_string_add, Sem.run_bind, Sem.run_pure, Result.andThen_ok, Op.stringOp, ByteArray.mk_append_mk]
    rw [if_neg (by rw [IntKind.max_i64]; show ¬ ((m.length + n.length : Nat) : Int) > _; omega)]
    rfl
  case eql => exact ⟨_, _, h, .ofBool _, by simp only [eqGuard_at_string, binOp_string_eql, Sem.run_bind, Sem.run_pure, Result.andThen_ok, ByteArray.toList_mk]; congr 2; rw [Bool.eq_iff_iff]; simp⟩
  case neq => exact ⟨_, _, h, .ofBool _, by simp only [eqGuard_at_string, binOp_string_neq, Sem.run_bind, Sem.run_pure, Result.andThen_ok, ByteArray.toList_mk]; congr 3; rw [Bool.eq_iff_iff]; simp⟩
  case lss => exact ⟨_, _, h, .ofBool _, by simp [eqGuard_at_string, binOp, Op.stringOp]⟩
  case leq => exact ⟨_, _, h, .ofBool _, by simp only [eqGuard_at_string, binOp_string_leq, Sem.run_bind, Sem.run_pure, Result.andThen_ok, ByteArray.toList_mk]; congr 3; rw [Bool.eq_iff_iff]; simp⟩
  case gtr => exact ⟨_, _, h, .ofBool _, by simp only [eqGuard_at_string, binOp_string_gtr, Sem.run_bind, Sem.run_pure, Result.andThen_ok, ByteArray.toList_mk]; congr 4; rw [Bool.eq_iff_iff]; simp⟩
  case geq => exact ⟨_, _, h, .ofBool _, by simp only [eqGuard_at_string, binOp_string_geq, Sem.run_bind, Sem.run_pure, Result.andThen_ok, ByteArray.toList_mk]⟩
  all_goals simp [Q.ev] at h
end Go.Proofs.Cdm
