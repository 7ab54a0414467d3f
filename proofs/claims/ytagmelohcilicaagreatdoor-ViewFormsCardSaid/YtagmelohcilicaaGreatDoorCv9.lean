/-
Operations, second part: memory that is read and written.
-/
import Derived.Test.YtagmelohcilicaaGreatDoorCv8
namespace Go.Proofs.Cdm
open Go Go.RowKit
variable {E : Env} {O : Old} {st : St} {a : Act} {C : Ctx}

theorem run_loadVar' {P : Program} {t : TypeId} {d : TypeDesc} {j : TypeInfo} {w : World} {b o : Nat} {cs : List Value} (hd : P.underlying t = some d) (hj : P.info? t = some j) (hl : cs.length = j.size)
    (hc : ∀ k v, cs[k]? = some v → w.cell? ⟨b, o + k, none⟩ = some v) (h1 : aggD d = false → cs.length = 1) : (loadVar t ⟨b, o, none⟩).run P w = .ok (pack (aggD d) cs) w := by
  unfold loadVar
  simp only [Sem.run_bind, run_isAgg' hd, Result.andThen_ok]
  cases ha : aggD d with
  | true =>
    simp only [if_true, Sem.run_bind, run_sizeOf' hj, Result.andThen_ok, ← hl]
    rw [run_loadCells_list w ⟨b, o, none⟩ cs (fun k v hk => by rw [Addr.add_lit]; exact hc k v hk)]
    rfl
  | false =>
    have h1 := h1 ha
    match cs, h1, hc with
    | [c], _, hc =>
      have := hc 0 c rfl
      rw [Nat.add_zero] at this
      simp [run_load, this, pack]
theorem run_storeVar' {P : Program} {t e : TypeId} {j : TypeInfo} {w : World} {b o : Nat} {cur : Array Value} {v : Value} {us : List Value} (hj : P.info? t = some j) (hv : v.cells = us.toArray) (hl : us.length = j.size)
    (hb : w.heap[b]? = some (.cells cur e (0, 0))) (ho : o + us.length ≤ cur.size) (h1 : ∀ u ∈ us, u.oneCell' = true) :
    (storeVar t ⟨b, o, none⟩ v).run P w = .ok () (w.setRow b (cur.toList.take o ++ us ++ cur.toList.drop (o + us.length)).toArray) := by
  unfold storeVar
  simp only [Sem.run_bind, run_sizeOf' hj, Result.andThen_ok, hv]
  rw [if_neg (by simp [hl])]
  simpa using run_storeCells_at P b o e us 0 cur w hb (by simpa using ho) h1

theorem ElemOk0.load {P : Program} {t : TypeId} {u : Ty} (ok : ElemOk0 P t u) {w : World} {b o : Nat} {cs : List Value} (hl : cs.length = u.size) (hc : ∀ k v, cs[k]? = some v → w.cell? ⟨b, o + k, none⟩ = some v) :
    (loadVar t ⟨b, o, none⟩).run P w = .ok (pack u.isAgg cs) w := by
  obtain ⟨d, hd, ha⟩ := ok.und
  obtain ⟨j, hj, hs⟩ := ok.inf
  rw [← ha]
  refine run_loadVar' hd hj (by rw [hl, hs]) hc (fun h => ?_)
  rw [ha] at h
  rw [hl]
  cases u <;> simp_all [Ty.isAgg, Ty.size]

theorem sl_cells {C : Ctx} {d : Nat} {t : Ty} {e : TypeId} {g : Nat} {ex : Bool} {l : List t.den} (hw : WOk C) (hl : look C.si d = some (.sl t e g ex l)) {b c : Nat} (hv : C.ν d = .slice (some ⟨b, 0, none⟩) l.length c) :
    ∃ vs, Reps C.w C.RO (l.flatMap (enc t)) vs ∧ (∀ x ∈ l, wft t x) ∧ (∀ j v, vs[j]? = some v → C.w.cell? ⟨b, j, none⟩ = some v) ∧ OwnV C.w e t.size (C.ν d) l.length vs := by
  obtain ⟨hz, hle, hf, vs, h1, h2, h3⟩ := hw.site d _ hl
  refine ⟨vs, h2, hf, fun j v hj => ?_, h1⟩
  have hl := h1.length
  rcases h1 with ⟨_, hx, _⟩ | ⟨g', cap, cur, he, _, hg, _, _, _, ht⟩
  · subst hx; simp at hj
  · rw [hv] at he
    injection he with he _ _
    injection he with he
    injection he with he
    subst he
    have hlt := (List.getElem?_eq_some_iff.1 hj).1
    rw [cell_of_row C.w _ _ cur _ (0, 0) hg, ← Array.getElem?_toList]
    rw [← ht, List.getElem?_take] at hj
    split at hj
    · exact hj
    · cases hj

theorem getElem?_drop_take {α : Type} (l : List α) (o s k : Nat) (v : α) (h : ((l.drop o).take s)[k]? = some v) : l[o + k]? = some v := by
  rw [List.getElem?_take] at h
  split at h
  · rwa [List.getElem?_drop] at h
  · cases h

theorem toT_agg {α : Type} {v : AV} {t : Ty} {k : t.den → List (Nat × Blk) → Q α} {r : α} (h : (toT t v k).ev st = some r) : v.agg = t.isAgg := by
  cases v with
  | ro u x =>
    have h' : (Q.opt (castT u t x) fun y => k y []).ev st = some r := by cases t <;> exact h
    obtain ⟨y, hy, _⟩ := opt_ev h'
    obtain ⟨e, _⟩ := castT_some hy
    subst e
    rfl
  | _ => cases t <;> first | rfl | (simp [toT, toT0, Q.ev] at h; done)
theorem load_ok {o : Oper} {t : TypeId} {x : Operand} {p : Pend} (hT : ∀ t i, E.T t = some i → TIok E.P t i) (hi : Inv O st a C) (ho : o.op = .load t x) (h : (opQ E o).ev st = some p) : OpOk E O o a C p := by
  unfold opQ at h
  rw [ho] at h
  have hq_ := opd_sound hi h
  clear h
  obtain ⟨v, h, hv⟩ := hq_
  unfold loadQ at h
  have hq_ := ty_ev h
  clear h
  obtain ⟨i, ht, h⟩ := hq_
  have ok := (hT t i ht).el
  have fin : ∀ (ad : Addr) (val : Value) (u : AV), a.eval x = .pointer (some ad) → (loadVar t ad).run E.P C.w = .ok val C.w → (put1 o u []).ev st = some p → RA C u val → OpOk E O o a C p := by
    intro ad val u he hr hp hu
    exact put1_same hi hp val (by simp only [execOp, ho, Instr.loadAt, Instr.sureAddr, Sem.run_bind, he, Sem.run_pure, Result.andThen_ok, hr]) hu
  cases v with
  | ptr d q s =>
    have hs := (chk_ev h).1
    replace h := (chk_ev h).2
    subst hs
    simp only [Q.ev] at h
    rcases hb : st.s d with _ | (⟨s', bv⟩ | ⟨u, e', g', ex, l⟩ | _) <;> rw [hb] at h <;> try (simp [Q.ev] at h; done)
    · have hl : look C.si d = some (.box s' bv) := by rw [hi.si]; exact hb
      obtain ⟨cs, ⟨ad, rfl, _, hp⟩, e⟩ := hv.rc (by simp)
      simp only [AV.agg, pack, Bool.false_eq_true, if_false, List.headD_cons] at e
      obtain ⟨off, h1, rfl⟩ := hp _ _ hl
      obtain ⟨hf, c, el, h2, h3, h4⟩ := hi.c.wok.site d _ hl
      obtain ⟨off', u', w, h5, h6, h7, h8⟩ := getA_part _ _ _ _ _ hf h3 h
      rw [h1] at h5
      simp only [Option.some.injEq, Prod.mk.injEq] at h5
      obtain ⟨rfl, rfl⟩ := h5
      refine fin _ _ w e (ok.load (cs := (c.toList.drop off).take i.ty.size) (fits_length w _ _ h7 h8) (fun k v hk => ?_)) h6 (.inr ⟨_, h8, by rw [fits_agg h7]⟩)
      rw [cell_of_row C.w _ _ c el (0, 0) h2, ← Array.getElem?_toList]
      exact getElem?_drop_take _ _ _ _ _ hk
  | rpt s y =>
    have hs := (chk_ev h).1
    replace h := (chk_ev h).2
    subst hs
    obtain ⟨cs, ⟨b, of, us, rfl, hr, hc⟩, e⟩ := hv.rc (by simp)
    simp only [AV.agg, pack, Bool.false_eq_true, if_false, List.headD_cons] at e
    exact fin _ _ _ e (ok.load hr.length (fun k v hk => (hc k v hk).1)) h (.inr ⟨us, hr, rfl⟩)
  | pel d g n q s =>
    have hs := (chk_ev h).1
    replace h := (chk_ev h).2
    subst hs
    simp only [Q.ev] at h
    rcases hb : st.s d with _ | (⟨s', bv⟩ | ⟨u, e', g', ex, l⟩ | _) <;> rw [hb] at h <;> try (simp [Q.ev] at h; done)
    · have hl : look C.si d = some (.sl u e' g' ex l) := by rw [hi.si]; exact hb
      have hg := (chk_ev h).1
      replace h := (chk_ev h).2
      subst hg
      have hq_ := opt_ev h
      clear h
      obtain ⟨y, hy, h⟩ := hq_
      obtain ⟨cs, ⟨ad, rfl, _, hp⟩, e⟩ := hv.rc (by simp)
      simp only [AV.agg, pack, Bool.false_eq_true, if_false, List.headD_cons] at e
      obtain ⟨_, hp⟩ := hp _ _ _ _ _ hl
      obtain ⟨hn, off, b, c, h1, h2, rfl⟩ := hp rfl
      obtain ⟨vs, h3, hf, h4, _⟩ := sl_cells hi.c.wok hl h2
      have hfy := hf y (List.mem_of_getElem? hy)
      obtain ⟨off', u', z, h5, h6, h7, h8⟩ := getT_part _ _ _ _ hfy h
      rw [h1] at h5
      simp only [Option.some.injEq, Prod.mk.injEq] at h5
      obtain ⟨rfl, rfl⟩ := h5
      have hle := offT_le _ _ _ _ h1
      have h9 : Reps C.w C.RO (enc i.ty z) ((vs.drop (n * u.size + off)).take i.ty.size) := by
        have e1 : enc i.ty z = ((l.flatMap (enc u)).drop (n * u.size + off)).take i.ty.size := by
          rw [h8, ← flatMap_part (enc u) u.size l (fun q hq => length_enc u q (hf q hq)) n y hy, take_drop_take _ _ _ _ _ hle]
        rw [e1]
        exact h3.sub _ _
      refine fin _ _ _ e (ok.load (cs := (vs.drop (n * u.size + off)).take i.ty.size) (RepT.length (w := C.w) (RO := C.RO) (x := z) ⟨h7, h9⟩) (fun k v hk => ?_)) h6 (.inr ⟨_, ⟨h7, h9⟩, rfl⟩)
      exact h4 _ _ (getElem?_drop_take _ _ _ _ _ hk)
  | _ => simp [Q.ev] at h

theorem splice_take {α : Type} (l us : List α) (a s n : Nat) (h : us.length = s) (h1 : a + s ≤ n) (h2 : n ≤ l.length) :
    ((l.take a ++ us ++ l.drop (a + s))).take n = (l.take n).take a ++ us ++ (l.take n).drop (a + s) := by
  rw [List.take_append, List.take_of_length_le (by simp; omega), List.take_take, Nat.min_eq_left (by omega), List.drop_take]
  congr 2
  simp
  omega
theorem grown_setRow (w : World) (g : Nat) (cs : Array Value) : w.grownBy (w.setRow g cs) (some g) :=
  ⟨rfl, rfl, rfl, by simp, fun k _ hk => setRow_other w g k _ (fun e => hk (by rw [e]))⟩

theorem store_ok {o : Oper} {t : TypeId} {x y : Operand} {p : Pend} (hT : ∀ t i, E.T t = some i → TIok E.P t i) (hi : Inv O st a C) (ho : o.op = .store t x y) (h : (opQ E o).ev st = some p) : OpOk E O o a C p := by
  unfold opQ at h
  rw [ho] at h
  have hq_ := opd_sound hi h
  clear h
  obtain ⟨vx, h, hx⟩ := hq_
  have hq_ := opd_sound hi h
  clear h
  obtain ⟨vy, h, hy⟩ := hq_
  unfold storeQ at h
  have hq_ := ty_ev h
  clear h
  obtain ⟨i, ht, h⟩ := hq_
  have ok := (hT t i ht).el
  obtain ⟨ti, hti, hsz⟩ := ok.inf
  have fin : ∀ (ad : Addr) (w' : World), a.eval x = .pointer (some ad) → (storeVar t ad (a.eval y)).run E.P C.w = .ok () w' → (execOp a.eval o).run E.P C.w = .ok .skip w' := by
    intro ad w' he hr
    simp only [execOp, ho, Instr.storeAt, Instr.sureAddr, Sem.run_bind, he, Sem.run_pure, Result.andThen_ok, hr]
  cases vx with
  | ptr d q s =>
    obtain ⟨hs, hfy, hdst⟩ := (chk_ev h).1
    replace h := (chk_ev h).2
    subst hs
    simp only [Q.ev] at h
    rcases hb : st.s d with _ | (⟨s', bv⟩ | ⟨u, e', g', ex, l⟩ | _) <;> rw [hb] at h <;> try (simp [Q.ev] at h; done)
    · have hl : look C.si d = some (.box s' bv) := by rw [hi.si]; exact hb
      obtain ⟨cs, ⟨ad, rfl, _, hp⟩, e⟩ := hx.rc (by simp)
      simp only [AV.agg, pack, Bool.false_eq_true, if_false, List.headD_cons] at e
      obtain ⟨off, h1, rfl⟩ := hp _ _ hl
      obtain ⟨hf, c, el, h2, h3, h4⟩ := hi.c.wok.site d _ hl
      obtain ⟨us, hus, ey⟩ := hy.rc (by rintro rfl; cases i.ty <;> simp [fits] at hfy)
      obtain ⟨w', h5, h6, h7⟩ := setA_part vy us i.ty hfy hus _ _ _ _ _ off hf h3 h1 h
      simp only [Q.ev, Option.some.injEq] at h5
      have hul := fits_length vy _ us hfy hus
      have hle := offT_le _ _ _ _ h1
      have hcl := fits_length bv _ _ hf h3
      have hr := fin _ _ e (run_storeVar' (cur := c) (e := el) hti (by rw [ey]; exact pack_cells hfy hus) (by rw [hul, hsz]) h2 (by rw [hul, ← Array.length_toList, hcl]; exact hle) (fun u hu => (fits_one vy _ us hfy hus u hu).2))
      have tc := touch (d := d) (b := .box s' bv) (b' := .box s' w') (v := C.ν d) (w' := C.w.setRow (C.φ d) (c.toList.take off ++ us ++ c.toList.drop (off + us.length)).toArray) hi.c hl (row := some (C.φ d)) rfl (grown_setRow _ _ _)
        (fun k o u hk hro _ => by injection hk with hk; subst hk; exact absurd hro (h4 o))
        ⟨(fun t v' hbx => by cases hbx; exact ⟨bv, rfl⟩), (fun t e g' ex' l' hbx => by cases hbx)⟩
        (by
          rintro C' rfl he
          refine ⟨h6, (c.toList.take off ++ us ++ c.toList.drop (off + us.length)).toArray, el, ?_, ?_, ?_⟩
          · simp only [Ctx.with, if_true]
            exact setRow_heap _ _ c _ el _ h2
          · have := h7.ext he
            rw [← hul] at this
            exact this
          · simp only [Ctx.with, if_true]
            exact h4)
        (fun n hn => by simp only [blkOf, Ctx.with, if_true, Option.some.injEq] at hn; exact .inl (by rw [hn]))
      exact ⟨_, _, h5.symm, _, _, hr, tc.1, tc.2, rfl, .inl ⟨rfl, hdst, .inl rfl⟩⟩
  | pel d g n q s =>
    obtain ⟨hs, hdst⟩ := (chk_ev h).1
    replace h := (chk_ev h).2
    subst hs
    simp only [Q.ev] at h
    rcases hb : st.s d with _ | (⟨s', bv⟩ | ⟨u, e', g', _ | _, l⟩ | _) <;> rw [hb] at h <;> try (simp [Q.ev] at h; done)
    · have hl : look C.si d = some (.sl u e' g' true l) := by rw [hi.si]; exact hb
      have hg := (chk_ev h).1
      replace h := (chk_ev h).2
      subst hg
      obtain ⟨us, hus, ey⟩ : ∃ us, RC C vy us ∧ a.eval y = pack vy.agg us := hy.rc (by rintro rfl; cases i.ty <;> simp [toT, toT0, Q.ev] at h)
      have h0 := h
      have hq_ := toT_sound hi.si hi.c.wok vy i.ty us _ hus h
      clear h
      obtain ⟨yt, m, h, hm, hyt⟩ := hq_
      have hq_ := chk_ev h
      clear h
      obtain ⟨hmd, h⟩ := hq_
      have hq_ := opt_ev h
      clear h
      obtain ⟨z, hz, h⟩ := hq_
      obtain ⟨cs, ⟨ad, rfl, _, hp⟩, e⟩ := hx.rc (by simp)
      simp only [AV.agg, pack, Bool.false_eq_true, if_false, List.headD_cons] at e
      obtain ⟨_, hp⟩ := hp _ _ _ _ _ hl
      obtain ⟨hn, off, b, c, h1, h2, rfl⟩ := hp rfl
      obtain ⟨vs, h3, hf, h4, hown⟩ := sl_cells hi.c.wok hl h2
      obtain ⟨hz0, hle0, _, _, _, _, hro0⟩ := hi.c.wok.site d _ hl
      have hfz := hf z (List.mem_of_getElem? hz)
      obtain ⟨off', z', h5, h6, h7, h8⟩ := setT_part i.ty yt hyt.1 _ _ _ _ hfz h
      rw [h1] at h5
      simp only [Option.some.injEq, Prod.mk.injEq, and_true] at h5
      subst h5
      simp only [Q.ev, Option.some.injEq] at h6
      have hle := offT_le _ _ _ _ h1
      have hyl := hyt.length
      -- the row, as it lies
      have hvl : vs.length = l.length * u.size := hown.length
      rcases hown with ⟨hnil, _⟩ | ⟨gb, cap, cur, hvv, hcp, hcur, hnc, hcm, hcs, htake⟩
      · omega
      rw [h2] at hvv
      injection hvv with hva _ hvc
      injection hva with hva
      injection hva with hva
      subst hva hvc
      have hcl : l.length * u.size ≤ c * u.size := Nat.mul_le_mul_right _ hnc
      have hnl : (n + 1) * u.size ≤ l.length * u.size := Nat.mul_le_mul_right _ hn
      rw [Nat.add_mul, Nat.one_mul] at hnl
      have hagg := toT_agg h0
      have hone : ∀ q ∈ us, q.cells = #[q] ∧ q.oneCell' = true := fun q hq => by
        obtain ⟨k, hk, rfl⟩ := List.mem_iff_getElem.1 hq
        exact (hyt.2.2 k (by have := hyt.2.1; omega) hk).one
      have hpk : (a.eval y).cells = us.toArray := by
        rw [ey, hagg]
        unfold pack
        cases hia : i.ty.isAgg with
        | true => rfl
        | false =>
          have hs1 : i.ty.size = 1 := by cases hty : i.ty <;> simp_all [Ty.isAgg, Ty.size]
          rw [hs1] at hyl
          match us, hyl, hone with
          | [q], _, hone => simp only [Bool.false_eq_true, if_false, List.headD_cons]; exact (hone q (by simp)).1
      have hul : us.length = i.ty.size := hyl
      have hr := fin _ _ e (run_storeVar' (cur := cur) (e := e') hti hpk (by rw [hul, hsz]) hcur (by rw [hul, hcs]; omega) (fun u hu => (hone u hu).2))
      have hlm : look (C.mk' m).si d = some (.sl u e' g true l) := by
        show look (m ++ C.si) d = _
        rw [look_append]
        cases hmm : look m d with
        | none => simpa using hl
        | some b' =>
          have := List.all_eq_true.1 hmd _ (look_mem hmm)
          simp [Nat.beq_refl] at this
      have hcm' := hi.c.mark hm
      have hem := Ext.mark hm
      have hblk : blkOf (C.mk' m) d (.sl u e' g true l) = some b := by
        show blkV (C.ν d) = _
        rw [h2]; simp [blkV, hcp]
      have hrow0 : ∀ o, ¬ ROm C m b o := fun o hro => by
        have := (hcm'.wok.site d _ hlm).2.2.2
        obtain ⟨_, _, _, h9⟩ := this
        have := (h9 b o hblk hro).1
        cases this
      have hsplit : cur.toList.take (n * u.size + off) ++ us ++ cur.toList.drop (n * u.size + off + us.length) = (cur.toList.take (n * u.size + off) ++ us ++ cur.toList.drop (n * u.size + off + i.ty.size)) := by rw [hul]
      have tc := touch (d := d) (b := .sl u e' g true l) (b' := .sl u e' g true (l.set n z')) (v := C.ν d) (w' := C.w.setRow b (cur.toList.take (n * u.size + off) ++ us ++ cur.toList.drop (n * u.size + off + us.length)).toArray) hcm' hlm (row := some b) hblk (grown_setRow _ _ _)
        (fun k o u hk hro _ => by injection hk with hk; subst hk; exact absurd hro (hrow0 o))
        ⟨(fun t v' hbx => by cases hbx), (fun t e g' ex' l' hbx => by cases hbx; exact ⟨g, true, l, rfl, Nat.le_refl _, fun _ => ⟨rfl, by simp⟩⟩)⟩
        (by
          rintro C' rfl he
          have hset : (l.set n z').flatMap (enc u) = (l.flatMap (enc u)).take (n * u.size + off) ++ enc i.ty yt ++ (l.flatMap (enc u)).drop (n * u.size + off + i.ty.size) := by
            have hlen : ∀ q ∈ l, (enc u q).length = u.size := fun q hq => length_enc u q (hf q hq)
            rw [flatMap_set (enc u) u.size l hlen n z' hn, h8, ← flatMap_part (enc u) u.size l hlen n z hz]
            have e1 : (List.flatMap (enc u) l).take (n * u.size + off) = (List.flatMap (enc u) l).take (n * u.size) ++ (((List.flatMap (enc u) l).drop (n * u.size)).take u.size).take off := by
              rw [List.take_take, Nat.min_eq_left (by omega), ← List.take_add]
            have e2 : (List.flatMap (enc u) l).drop (n * u.size + off + i.ty.size) = (((List.flatMap (enc u) l).drop (n * u.size)).take u.size).drop (off + i.ty.size) ++ (List.flatMap (enc u) l).drop (n * u.size + u.size) := by
              rw [List.drop_take, List.drop_drop]
              conv => lhs; rw [← List.take_append_drop (u.size - (off + i.ty.size)) ((List.flatMap (enc u) l).drop (n * u.size + off + i.ty.size))]
              rw [List.drop_drop]
              congr 2
              · congr 1; omega
              · omega
            rw [e1, e2]
            simp
          have hk0 : Keep C.w _ C.RO _ := (hem.keep.trans he.keep)
          refine ⟨hz0, by simpa using hle0, fun q hq => ?_, vs.take (n * u.size + off) ++ us ++ vs.drop (n * u.size + off + i.ty.size), ?_, ?_, fun b' o hb' hro => ?_⟩
          · rcases List.mem_or_eq_of_mem_set hq with hq | hq
            · exact hf q hq
            · rw [hq]; exact h7
          · simp only [Ctx.with, if_true]
            rw [h2]
            refine .inr ⟨b, c, _, by simp, hcp, setRow_heap _ _ cur _ e' _ hcur, by simpa using hnc, hcm, ?_, ?_⟩
            · simp [hul, ← hcs]; omega
            · simp only [List.length_set]
              rw [← htake, hul]
              have : off + i.ty.size ≤ u.size := hle
              exact splice_take _ _ _ _ _ hul (by omega) (by have hq : cur.toList.length = c * u.size := hcs; omega)
          · rw [hset]
            exact (h3.keep hk0).splice (hyt.2.keep he.keep) _ _
          · exact absurd hro (fun hr => by
              have : b' = b := by simp only [Ctx.with, if_true, h2, blkV, if_pos hcp, Option.some.injEq] at hb'; exact hb'.symm
              subst this
              exact hrow0 o hr))
        (fun n hn => by simp only [blkOf, Ctx.with, if_true, h2, blkV, if_pos hcp, Option.some.injEq] at hn; exact .inl (by rw [hn]))
      exact ⟨_, _, h6.symm, _, _, hr, hem.trans tc.1, tc.2, rfl, .inl ⟨rfl, hdst, .inl rfl⟩⟩
  | _ => simp [Q.ev] at h
end Go.Proofs.Cdm
