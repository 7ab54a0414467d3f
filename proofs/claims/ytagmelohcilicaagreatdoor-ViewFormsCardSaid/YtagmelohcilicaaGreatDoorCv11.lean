/-
Operations, fourth part: slices.
-/
import Derived.Test.YtagmelohcilicaaGreatDoorCv10
namespace Go.Proofs.Cdm
open Go Go.RowKit
variable {E : Env} {O : Old} {st : St} {a : Act} {C : Ctx}

/-- A slice's value, to be read. -/
def SlVal (C : Ctx) (t : Ty) (l : List t.den) (val : Value) : Prop :=
  (∀ x ∈ l, wft t x) ∧ l.length ≤ LIM ∧ ∃ us, Reps C.w C.RO (l.flatMap (enc t)) us ∧
    ((l = [] ∧ ∃ A c, plainA A = true ∧ val = .slice A 0 c) ∨ ∃ b o c, val = .slice (some ⟨b, o, none⟩) l.length c ∧ l.length ≤ c ∧ ∀ j v, us[j]? = some v → C.w.cell? ⟨b, o + j, none⟩ = some v)
theorem SlVal.len {t : Ty} {l : List t.den} {val : Value} (h : SlVal C t l val) : ∃ A c, plainA A = true ∧ val = .slice A l.length c := by
  obtain ⟨_, _, us, _, ⟨rfl, A, c, ha, rfl⟩ | ⟨b, o, c, rfl, _⟩⟩ := h
  · exact ⟨A, c, ha, rfl⟩
  · exact ⟨_, c, rfl, rfl⟩
theorem RA.slice {t : Ty} {l : List t.den} {val : Value} (h : RA C (.ro (.slice t) l) val) : SlVal C t l val := by
  obtain ⟨cs, hr, e⟩ := h.rc (by simp)
  have h1 := RA.one (C := C) (t := .slice t) (x := l) (val := val) (.inr ⟨cs, hr, e⟩) rfl rfl
  refine ⟨hr.1, ?_⟩
  have key : ∀ (d : DV), d = .sl l.length (l.flatMap (enc t)) → Rep C.w C.RO d val → l.length ≤ LIM ∧ ∃ us, Reps C.w C.RO (l.flatMap (enc t)) us ∧
      ((l = [] ∧ ∃ A c, plainA A = true ∧ val = .slice A 0 c) ∨ ∃ b o c, val = .slice (some ⟨b, o, none⟩) l.length c ∧ l.length ≤ c ∧ ∀ j v, us[j]? = some v → C.w.cell? ⟨b, o + j, none⟩ = some v) := by
    intro d hd hrep
    cases hrep with
    | sl0 A c ha =>
      injection hd with h1 h2
      have : l = [] := List.eq_nil_of_length_eq_zero h1.symm
      subst this
      exact ⟨by simp [LIM], [], Reps.nil, .inl ⟨rfl, A, c, ha, rfl⟩⟩
    | sl n cells b o c vs hn hm hc hcell hro r =>
      injection hd with h1 h2
      subst h1 h2
      refine ⟨hm, (List.range (l.flatMap (enc t)).length).map vs, ⟨by simp, fun i h1 h2 => by simpa using r i h1⟩, .inr ⟨b, o, c, rfl, hc, fun j v hj => ?_⟩⟩
      rw [List.getElem?_map, Option.map_eq_some_iff] at hj
      obtain ⟨k, hk, rfl⟩ := hj
      have hk' := List.getElem?_eq_some_iff.1 hk
      obtain ⟨h3, h4⟩ := hk'
      simp at h3 h4
      subst h4
      exact hcell _ (by simpa using h3)
    | _ => cases hd
  exact key _ rfl h1
theorem rows_sound {α : Type} {t : Ty} {v : AV} {val : Value} {k : List t.den → Q α} {r : α} (hi : Inv O st a C) (hv : RA C v val) (h : (rows t v k).ev st = some r) : ∃ l, (k l).ev st = some r ∧ SlVal C t l val := by
  unfold rows at h
  cases v with
  | ro u x =>
    have hq_ := opt_ev h
    clear h
    obtain ⟨l, hl, h⟩ := hq_
    obtain ⟨e, hl⟩ := castT_some hl
    subst e
    simp at hl
    subst hl
    exact ⟨l, h, hv.slice⟩
  | nils u =>
    have e := (chk_ev h).1
    subst e
    obtain ⟨A, ha, rfl⟩ := hv.nils
    exact ⟨[], (chk_ev h).2, by simp, by simp [LIM], [], Reps.nil, .inl ⟨rfl, A, 0, ha, rfl⟩⟩
  | own d g =>
    simp only [Q.ev] at h
    rcases hb : st.s d with _ | (⟨s', bv⟩ | ⟨u, e', g', ex, l⟩ | _) <;> rw [hb] at h <;> try (simp [Q.ev] at h; done)
    have hl : look C.si d = some (.sl u e' g' ex l) := by rw [hi.si]; exact hb
    have hg := (chk_ev h).1
    replace h := (chk_ev h).2
    subst hg
    have hq_ := opt_ev h
    clear h
    obtain ⟨l', hl', h⟩ := hq_
    obtain ⟨e, hl'⟩ := castT_some hl'
    injection e with e
    subst e
    simp at hl'
    subst hl'
    refine ⟨l', h, ?_⟩
    obtain ⟨cs, ⟨v, rfl, _, _, hq⟩, e⟩ := hv.rc (by simp)
    simp only [AV.agg, pack, Bool.false_eq_true, if_false, List.headD_cons] at e
    obtain ⟨_, hq⟩ := hq _ _ _ _ _ hl
    rw [e, hq rfl]
    obtain ⟨hz, hle, hf, vs, h1, h2, h3⟩ := hi.c.wok.site d _ hl
    refine ⟨hf, hle, vs, h2, ?_⟩
    rcases h1 with ⟨hn, _, A, hA⟩ | ⟨b, cap, cur, he, hc, hg, hn, _, hs, ht⟩
    · exact .inl ⟨List.eq_nil_of_length_eq_zero hn, A, 0, hA⟩
    · refine .inr ⟨b, 0, cap, he, hn, fun j v hj => ?_⟩
      rw [cell_of_row C.w _ _ cur _ (0, 0) hg, ← Array.getElem?_toList, Nat.zero_add]
      rw [← ht, List.getElem?_take] at hj
      split at hj
      · exact hj
      · cases hj
  | _ => simp [Q.ev] at h

def LenOf (d : TypeDesc) (v : Value) (n : Int) : Prop := match d, v with
  | .string, .string s => (s.size : Int) = n
  | .array m _, _ => (m : Int) = n
  | .slice _, .slice _ m _ => (m : Int) = n
  | _, _ => False
theorem run_len {P : Program} {t : TypeId} (w : World) (u ty : TypeId) (A : Option Addr) (n c : Nat) (h : P.underlying t = some (.slice u)) : (Builtin.len_ #[t] ty #[.slice A n c]).run P w = .ok (.int .i64 n) w := by
  simp [Builtin.len_, run_underlying h, goInt]
theorem len_ok {o : Oper} {c : Call} {p : Pend} (hT : ∀ t i, E.T t = some i → TIok E.P t i) (hi : Inv O st a C) (ho : o.op = .call c) (hc : c.callee = .builtin .len) (h : (opQ E o).ev st = some p) : OpOk E O o a C p := by
  unfold opQ at h
  rw [ho] at h
  simp only [hc] at h
  have hq_ := opds_sound hi h
  clear h
  obtain ⟨vs, h, hv⟩ := hq_
  match vs, h, hv with
  | [], h, _ => simp [Q.ev] at h
  | _ :: _ :: _, h, _ => simp [Q.ev] at h
  | [x], h, hv =>
  obtain ⟨t, y, hz⟩ : ∃ t y, c.argTypes.toList.zip c.args.toList = [(t, y)] := by
    match hz : c.argTypes.toList.zip c.args.toList, hv.length with
    | [(t, y)], _ => exact ⟨t, y, rfl⟩
    | [], hl => simp at hl
    | _ :: _ :: _, hl => simp at hl
  rw [hz] at hv
  have hv : RA C x (a.eval y) := hv.1
  unfold lenQ at h
  have hq_ := ty_ev h
  clear h
  obtain ⟨i, ht, h⟩ := hq_
  have ok := hT _ i ht
  obtain ⟨d, hd, hu⟩ := ok.und
  have hty0 : ∃ tl, c.argTypes.toList = t :: tl := by cases hq : c.argTypes.toList <;> cases hq2 : c.args.toList <;> simp_all
  have har0 : ∃ tl, c.args.toList = y :: tl := by cases hq : c.argTypes.toList <;> cases hq2 : c.args.toList <;> simp_all
  obtain ⟨tl, htl⟩ := hty0
  obtain ⟨al, hal⟩ := har0
  have e1 : c.argTypes[0]? = some t := by rw [← Array.getElem?_toList, htl]; rfl
  have e0 : c.argTypes.getD 0 0 = t := by simp [Array.getD_eq_getD_getElem?, e1]
  have e2 : (c.args.map a.eval)[0]? = some (a.eval y) := by
    have : c.args[0]? = some y := by rw [← Array.getElem?_toList, hal]; rfl
    simp [this]
  rw [e0] at hd
  have run : ∀ (n : Int), LenOf d (a.eval y) n → (execOp a.eval o).run E.P C.w = .ok (.value (.int .i64 n)) C.w := by
    intro n hn
    simp only [execOp, ho, resolve, hc, Sem.run_bind, Sem.run_pure, Result.andThen_ok, invoke, builtin]
    have : (Builtin.len_ c.argTypes o.type (c.args.map a.eval)).run E.P C.w = .ok (.int .i64 n) C.w := by
      unfold Builtin.len_
      simp only [e1, e2, Sem.run_bind, run_underlying hd, Result.andThen_ok]
      revert hn
      generalize a.eval y = q
      intro hn
      cases d <;> try (exact hn.elim)
      all_goals (cases q <;> first | exact hn.elim | (simp only [LenOf] at hn; simp only [goInt, Sem.run_pure]; rw [hn]))
    rw [this]
    rfl
  have fin : ∀ (n : Int), (put1 o (.ro (.int .i64) n) []).ev st = some p → LenOf d (a.eval y) n → OpOk E O o a C p := fun n hp hn => put1_same hi hp _ (run n hn) (.ofInt _ _)
  cases hty : i.ty with
  | str =>
    rw [hty] at hu h
    cases x with
    | ro s y' =>
      cases s with
      | str =>
        obtain ⟨e, _⟩ := hv.str
        exact fin _ h (by rw [hu, e]; rfl)
      | _ => simp [Q.ev] at h
    | _ => simp [Q.ev] at h
  | slice u =>
    rw [hty] at hu h
    have h' : (∃ s, x = .nils s ∧ (put1 o (.ro (.int .i64) (0 : Int)) []).ev st = some p) ∨ (rows u x fun l => put1 o (.ro (.int .i64) (l.length : Int)) []).ev st = some p := by
      cases x with
      | nils s => exact .inl ⟨s, rfl, h⟩
      | _ => exact .inr h
    rcases h' with ⟨s, rfl, h⟩ | h
    · obtain ⟨A, _, e⟩ := hv.nils
      exact fin _ h (by rw [hu.1, e]; rfl)
    · have hq_ := rows_sound hi hv h
      clear h
      obtain ⟨l, h, hs⟩ := hq_
      obtain ⟨A, c', _, e⟩ := hs.len
      exact fin _ h (by rw [hu.1, e]; rfl)
  | array n u =>
    rw [hty] at hu h
    obtain ⟨e, hu, _⟩ := hu
    exact fin _ h (by rw [hu]; rfl)
  | _ => rw [hty] at h; cases x <;> simp [Q.ev] at h

theorem index_ok {o : Oper} {t : TypeId} {x y : Operand} {p : Pend} (hT : ∀ t i, E.T t = some i → TIok E.P t i) (hi : Inv O st a C) (ho : o.op = .index t x y) (h : (opQ E o).ev st = some p) : OpOk E O o a C p := by
  unfold opQ at h
  rw [ho] at h
  have hq_ := opd_sound hi h
  clear h
  obtain ⟨vx, h, hx⟩ := hq_
  have hq_ := opd_sound hi h
  clear h
  obtain ⟨vy, h, hy⟩ := hq_
  have hq_ := ty_ev h
  clear h
  obtain ⟨i, ht, h⟩ := hq_
  have hq_ := asInt_ev h
  clear h
  obtain ⟨j, n, rfl, h⟩ := hq_
  have hn := (chk_ev h).1
  replace h := (chk_ev h).2
  have ok := hT _ i ht
  obtain ⟨d, hd, hu⟩ := ok.und
  have ey := hy.int
  cases hty : i.ty with
  | str =>
    rw [hty] at hu h
    cases vx with
    | ro s z =>
      cases s with
      | str =>
        have hq_ := opt_ev h
        clear h
        obtain ⟨b, hb, h⟩ := hq_
        obtain ⟨ex, _⟩ := hx.str
        refine put1_same hi h (.int .u8 (b.toNat : Int)) ?_ (.ofInt _ _)
        have hlt := (List.getElem?_eq_some_iff.1 hb)
        obtain ⟨h1, h2⟩ := hlt
        have : (⟨z.toArray⟩ : ByteArray)[n.toNat]? = some b := by
          rw [ByteArray.getElem?_lt' _ _ h1]
          congr 1
        simp only [execOp, ho, Instr.index, ey, Go.asIntOf, Sem.run_bind, Sem.run_pure, Result.andThen_ok, run_underlying (hu ▸ hd), ex, if_pos hn, this]
      | _ => simp [Q.ev] at h
    | _ => simp [Q.ev] at h
  | array m u =>
    rw [hty] at hu h
    cases vx with
    | ro s z =>
      have hq_ := opt_ev h
      clear h
      obtain ⟨l, hl, h⟩ := hq_
      obtain ⟨e, hl⟩ := castT_some hl
      subst e
      simp at hl
      subst hl
      have hq_ := opt_ev h
      clear h
      obtain ⟨q, hq, h⟩ := hq_
      obtain ⟨el, hd', hel⟩ := hu
      rw [hd'] at hd
      obtain ⟨cs, hr, e⟩ := hx.rc (by simp)
      simp only [AV.agg, Ty.isAgg, pack, if_true] at e
      obtain ⟨ej, h5, h6⟩ := hel.inf
      have hlt := (List.getElem?_eq_some_iff.1 hq).1
      have hm : n.toNat < m := by have := hr.1.1; omega
      have hcl := hr.length
      simp only [Ty.size] at hcl
      have hle : (n.toNat + 1) * u.size ≤ m * u.size := Nat.mul_le_mul_right _ hm
      rw [Nat.add_mul, Nat.one_mul] at hle
      have hp : RepT C.w C.RO u q ((cs.drop (n.toNat * u.size)).take u.size) := by
        refine ⟨hr.1.2 q (List.mem_of_getElem? hq), ?_⟩
        rw [← flatMap_part (enc u) u.size l (fun q' hq' => length_enc u q' (hr.1.2 q' hq')) n.toNat q hq]
        exact hr.2.sub _ _
      refine put1_same hi h (pack u.isAgg ((cs.drop (n.toNat * u.size)).take u.size)) ?_ (.inr ⟨_, hp, rfl⟩)
      have hnm : n < (m : Int) := by omega
      simp only [execOp, ho, Instr.index, ey, Go.asIntOf, Sem.run_bind, Sem.run_pure, Result.andThen_ok, run_underlying hd, e, hn, hnm, and_self, if_true, run_sizeOf' h5, h6, pack_sub u cs (n.toNat * u.size) hel.pos (by omega) hel]
    | _ => simp [Q.ev] at h
  | _ => rw [hty] at h; cases vx <;> simp [Q.ev] at h

theorem indexAddr_ok {o : Oper} {t : TypeId} {x y : Operand} {p : Pend} (hT : ∀ t i, E.T t = some i → TIok E.P t i) (hi : Inv O st a C) (ho : o.op = .indexAddr t x y) (h : (opQ E o).ev st = some p) : OpOk E O o a C p := by
  unfold opQ at h
  rw [ho] at h
  have hq_ := opd_sound hi h
  clear h
  obtain ⟨vx, h, hx⟩ := hq_
  have hq_ := opd_sound hi h
  clear h
  obtain ⟨vy, h, hy⟩ := hq_
  unfold indexAddrQ at h
  have hq_ := ty_ev h
  clear h
  obtain ⟨i, ht, h⟩ := hq_
  have hq_ := asInt_ev h
  clear h
  obtain ⟨j, n, rfl, h⟩ := hq_
  have hn := (chk_ev h).1
  replace h := (chk_ev h).2
  have ok := hT _ i ht
  obtain ⟨d, hd, hu⟩ := ok.und
  have ey := hy.int
  cases hty : i.ty with
  | slice u =>
    rw [hty] at hu h
    obtain ⟨rfl, hel, _⟩ := hu
    obtain ⟨ej, h5, h6⟩ := hel.inf
    have run : ∀ ad len c, a.eval x = .slice (some ad) len c → n.toNat < len → (execOp a.eval o).run E.P C.w = .ok (.value (.pointer (some (ad.add (n.toNat * u.size))))) C.w := by
      intro ad len c he hlt
      have hnl : n < (len : Int) := by omega
      simp only [execOp, ho, Instr.indexAt, ey, Go.asIntOf, Sem.run_bind, Sem.run_pure, Result.andThen_ok, run_underlying hd, he, hn, hnl, and_self, if_true, run_sizeOf' h5, h6]
    cases vx with
    | ro s l0 =>
      have hq_ := opt_ev h
      clear h
      obtain ⟨l, hl, h⟩ := hq_
      obtain ⟨e, hl⟩ := castT_some hl
      subst e
      simp at hl
      subst hl
      have hq_ := opt_ev h
      clear h
      obtain ⟨q, hq, h⟩ := hq_
      have hlt := (List.getElem?_eq_some_iff.1 hq).1
      -- the cells are told, and will not be written
      obtain ⟨cs, hr, e⟩ := hx.rc (by simp)
      have h1 := RA.one (C := C) (t := .slice u) (x := l) (val := a.eval x) (.inr ⟨cs, hr, e⟩) rfl rfl
      have key : ∀ (dv : DV), dv = .sl l.length (l.flatMap (enc u)) → Rep C.w C.RO dv (a.eval x) → ∃ b off c us, a.eval x = .slice (some ⟨b, off, none⟩) l.length c ∧ Reps C.w C.RO (l.flatMap (enc u)) us ∧ ∀ j v, us[j]? = some v → C.w.cell? ⟨b, off + j, none⟩ = some v ∧ C.RO b (off + j) := by
        intro dv hdv hrep
        generalize a.eval x = val at hrep
        cases hrep with
        | sl0 A c _ => injection hdv with h1 _; omega
        | sl m cells b off c vs hm0 hm hc hcell hro r =>
          injection hdv with h1 h2
          subst h1 h2
          refine ⟨b, off, c, (List.range (l.flatMap (enc u)).length).map vs, rfl, ⟨by simp, fun i h1 h2 => by simpa using r i h1⟩, fun j v hj => ?_⟩
          rw [List.getElem?_map, Option.map_eq_some_iff] at hj
          obtain ⟨k, hk, rfl⟩ := hj
          obtain ⟨h3, h4⟩ := List.getElem?_eq_some_iff.1 hk
          simp at h3 h4
          subst h4
          exact ⟨hcell _ (by simpa using h3), hro _ (by simpa using h3)⟩
        | _ => cases hdv
      obtain ⟨b, off, c, us, he, hus, hcell⟩ := key _ rfl h1
      refine put1_same hi h _ (run _ _ _ he hlt) (.inr ⟨[_], ⟨b, off + n.toNat * u.size, (us.drop (n.toNat * u.size)).take u.size, by rw [Addr.add_lit], ⟨hr.1 q (List.mem_of_getElem? hq), ?_⟩, fun k v hk => ?_⟩, rfl⟩)
      · rw [← flatMap_part (enc u) u.size l (fun q' hq' => length_enc u q' (hr.1 q' hq')) n.toNat q hq]
        exact hus.sub _ _
      · have := hcell _ _ (getElem?_drop_take _ _ _ _ _ hk)
        rwa [← Nat.add_assoc] at this
    | own d' g =>
      simp only [Q.ev] at h
      rcases hb : st.s d' with _ | (⟨s', bv⟩ | ⟨u', e', g', ex, l⟩ | _) <;> rw [hb] at h <;> try (simp [Q.ev] at h; done)
      have hl : look C.si d' = some (.sl u' e' g' ex l) := by rw [hi.si]; exact hb
      obtain ⟨hg, hu'⟩ := (chk_ev h).1
      replace h := (chk_ev h).2
      have hlt := (chk_ev h).1
      replace h := (chk_ev h).2
      subst hg hu'
      obtain ⟨cs, ⟨v, rfl, _, hdom, hq⟩, e⟩ := hx.rc (by simp)
      simp only [AV.agg, pack, Bool.false_eq_true, if_false, List.headD_cons] at e
      obtain ⟨_, hq'⟩ := hq _ _ _ _ _ hl
      rw [hq' rfl] at e
      obtain ⟨hz, hle, hf, vs, h1, h2, h3⟩ := hi.c.wok.site d' _ hl
      rcases h1 with ⟨h0, _⟩ | ⟨b, cap, cur, he, hc, hg, hnn, _, hs, hta⟩
      · omega
      rw [he] at e
      refine put1_same hi h _ (run _ _ _ e hlt) (.inr ⟨[_], ⟨_, rfl, hdom, fun t2 e2 g2 ex2 l2 hl2 => ?_⟩, rfl⟩)
      rw [hl] at hl2
      injection hl2 with hl2
      cases hl2
      exact ⟨Nat.le_refl _, fun _ => ⟨hlt, 0, b, cap, rfl, he, by rw [Addr.add_lit]; simp⟩⟩
    | _ => simp [Q.ev] at h
  | array m u =>
    rw [hty] at hu h
    obtain ⟨el, rfl, hel⟩ := hu
    obtain ⟨ej, h5, h6⟩ := hel.inf
    have run : ∀ ad, a.eval x = .pointer (some ad) → n.toNat < m → (execOp a.eval o).run E.P C.w = .ok (.value (.pointer (some (ad.add (n.toNat * u.size))))) C.w := by
      intro ad he hlt
      have hnl : n < (m : Int) := by omega
      simp only [execOp, ho, Instr.indexAt, ey, Go.asIntOf, Sem.run_bind, Sem.run_pure, Result.andThen_ok, run_underlying hd, he, Instr.sureAddr, hn, hnl, and_self, if_true, run_sizeOf' h5, h6]
    cases vx with
    | ptr d' q s =>
      obtain ⟨hlt, hs⟩ := (chk_ev h).1
      replace h := (chk_ev h).2
      subst hs
      obtain ⟨cs, ⟨ad, rfl, hdom, hp⟩, e⟩ := hx.rc (by simp)
      simp only [AV.agg, pack, Bool.false_eq_true, if_false, List.headD_cons] at e
      refine put1_same hi h _ (run _ e hlt) (.inr ⟨[_], ⟨_, rfl, hdom, fun t w hl => ?_⟩, rfl⟩)
      obtain ⟨off, h7, rfl⟩ := hp _ _ hl
      exact ⟨off + (n.toNat * u.size), offT_append _ _ _ _ _ _ _ h7 (by simp [offT, blt_iff.2 hlt]), by rw [Addr.add_lit]⟩
    | rpt s z =>
      have hq_ := opt_ev h
      clear h
      obtain ⟨l, hl, h⟩ := hq_
      obtain ⟨e, hl⟩ := castT_some hl
      subst e
      simp at hl
      subst hl
      have hq_ := opt_ev h
      clear h
      obtain ⟨q, hq, h⟩ := hq_
      have hlt := (List.getElem?_eq_some_iff.1 hq).1
      obtain ⟨cs, ⟨b, of, us, rfl, hr, hc⟩, e⟩ := hx.rc (by simp)
      simp only [AV.agg, pack, Bool.false_eq_true, if_false, List.headD_cons] at e
      have hm : n.toNat < m := by have := hr.1.1; omega
      refine put1_same hi h _ (run _ e hm) (.inr ⟨[_], ⟨b, of + n.toNat * u.size, (us.drop (n.toNat * u.size)).take u.size, by rw [Addr.add_lit], ⟨hr.1.2 q (List.mem_of_getElem? hq), ?_⟩, fun k v hk => ?_⟩, rfl⟩)
      · rw [← flatMap_part (enc u) u.size l (fun q' hq' => length_enc u q' (hr.1.2 q' hq')) n.toNat q hq]
        exact hr.2.sub _ _
      · have := hc _ _ (getElem?_drop_take _ _ _ _ _ hk)
        rwa [← Nat.add_assoc] at this
    | _ => simp [Q.ev] at h
  | _ => rw [hty] at h; cases vx <;> simp [Q.ev] at h
end Go.Proofs.Cdm
