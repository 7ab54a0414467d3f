/-
Operations, ninth part: append, and slices that are made.
-/
import Derived.Test.YtagmelohcilicaaGreatDoorCv15
namespace Go.Proofs.Cdm
open Go Go.RowKit
variable {E : Env} {O : Old} {st : St} {a : Act} {C : Ctx}

theorem append_congr {A B : Array TypeId} {xs ys : Array Value} {t t' : TypeId} (h0 : A[0]? = B[0]?) (h1 : A[1]? = B[1]?) (h2 : xs[0]? = ys[0]?) (h3 : xs[1]? = ys[1]?) : Builtin.append_ A t xs = Builtin.append_ B t' ys := by
  unfold Builtin.append_
  rw [h0, h1, h2, h3]
theorem Ctx.with_same (C : Ctx) (d : Nat) (b : Blk) (k : Nat) (v : Value) : (C.with d b k v).ν d = v := by simp [Ctx.with]
theorem below_of_grown {w w' : World} (h : w.grownBy w' none) : Below w.heap.size w w' := ⟨h.os, h.tape, h.output, h.size, fun i hi => h.block i hi (by simp)⟩

/-- What is appended. -/
structure Srcs (P : Program) (w : World) (size : Nat) (x : Value) (m : Nat) (news : List Value) : Prop where
  len : news.length = m * size
  lenOf : Builtin.lenOf x = pure m
  first : (Builtin.firstCells size m x).run P w = .ok news.toArray w
  first' : (Builtin.firstCells size m x).run P w.drew = .ok news.toArray w.drew
  one : ∀ u ∈ news, u.oneCell' = true
theorem Reps.oneCell {w : World} {RO : Nat → Nat → Prop} {ds : List DV} {vs : List Value} (h : Reps w RO ds vs) : ∀ u ∈ vs, u.oneCell' = true := by
  intro u hu
  obtain ⟨i, hi⟩ := List.mem_iff_getElem?.1 hu
  obtain ⟨h1, h2⟩ := List.getElem?_eq_some_iff.1 hi
  have := (h.2 i (by rw [h.1]; exact h1) h1).one.2
  rw [h2] at this
  exact this
theorem src_slice {P : Program} {t : Ty} {l : List t.den} {val : Value} (h : SlVal C t l val) : ∃ us, Srcs P C.w t.size val l.length us ∧ Reps C.w C.RO (l.flatMap (enc t)) us := by
  obtain ⟨hw, hl, us, hr, ⟨rfl, A, c, hA, rfl⟩ | ⟨b, o, c, rfl, hc, hcell⟩⟩ := h
  · have : us = [] := List.eq_nil_of_length_eq_zero (by rw [← hr.1]; simp)
    subst this
    refine ⟨[], ⟨by simp, rfl, ?_, ?_, by simp⟩, hr⟩ <;> cases A <;> simp [Builtin.firstCells, loadCells, loadCellsFrom]
  · have hul : us.length = l.length * t.size := by rw [← hr.1]; exact length_flatMap_of _ _ _ (fun x hx => length_enc t x (hw x hx))
    refine ⟨us, ⟨hul, rfl, ?_, ?_, hr.oneCell⟩, hr⟩
    · exact run_firstCells_some C.w t.size l.length ⟨b, o, none⟩ l.length c us hul (fun j v hj => by rw [addr_add]; exact hcell j v hj)
    · exact run_firstCells_some C.w.drew t.size l.length ⟨b, o, none⟩ l.length c us hul (fun j v hj => by
        rw [addr_add]
        have := hcell j v hj
        simpa using this)
theorem src_str {P : Program} {s : List UInt8} : Srcs P C.w 1 (.string ⟨s.toArray⟩) s.length (s.map fun b => Value.int .u8 b.toNat) ∧ Reps C.w C.RO ((s.map fun b => (b.toNat : Int)).flatMap (enc (.int .u8))) (s.map fun b => Value.int .u8 b.toNat) := by
  have hsz : (⟨s.toArray⟩ : ByteArray).size = s.length := rfl
  have hst : Lib.strCells ⟨s.toArray⟩ = s.map fun b => Value.int .u8 b.toNat := by simp [Lib.strCells]
  have f := fun w => Lib.run_firstCells_string (P := P) w 1 ⟨s.toArray⟩
  rw [hsz, hst] at f
  refine ⟨⟨by simp, rfl, f _, f _, ?_⟩, ?_⟩
  · intro u hu
    simp only [List.mem_map] at hu
    obtain ⟨b, _, rfl⟩ := hu
    rfl
  · have e1 : ((s.map fun b => (b.toNat : Int)).flatMap (enc (.int .u8))) = s.map fun b => DV.int .u8 b.toNat := by
      rw [List.flatMap_map]
      clear f hst hsz
      induction s with
      | nil => rfl
      | cons b s ih => rw [List.flatMap_cons, List.map_cons, ih]; rfl
    rw [e1]
    exact ⟨by simp, fun i h1 h2 => by simp only [List.getElem_map]; exact .int _ _⟩

theorem addQ_sound {α : Type} {P : Program} {t u : TypeId} {bytes : Nat} {q jt : Ty} {x : AV} {val : Value} {l : List q.den} {k : List q.den → Q α} {p : α} (hi : Inv O st a C) (hx : RA C x val) (h : (addQ t u bytes q jt x l k).ev st = some p) :
    ∃ (m : List q.den) (us : List Value), (k (l ++ m)).ev st = some p ∧ (l.length + m.length) * bytes ≤ 140737488355328 ∧ (∀ x ∈ m, wft q x) ∧ Srcs P C.w q.size val m.length us ∧ Reps C.w C.RO (m.flatMap (enc q)) us ∧ (jt = .str ∨ ∃ s, jt = .slice s) := by
  unfold addQ at h
  split at h
  · split at h
    · rename_i y
      have hq_ := opt_ev h
      clear h
      obtain ⟨m, hm, h⟩ := hq_
      have hq_ := chk_ev h
      clear h
      obtain ⟨hb, h⟩ := hq_
      obtain ⟨e, hm⟩ := castT_some hm
      injection e with e
      subst e
      simp at hm
      subst hm
      obtain ⟨ex, _⟩ := hx.str
      rw [ex]
      refine ⟨_, _, h, hb, fun _ _ => trivial, ?_, (src_str (P := P)).2, .inl rfl⟩
      have := (src_str (C := C) (P := P) (s := y)).1
      simpa [Ty.size] using this
    · simp [Q.ev] at h
  · have hq_ := chk_ev h
    clear h
    obtain ⟨_, h⟩ := hq_
    have hq_ := rows_sound hi hx h
    clear h
    obtain ⟨m, h, hsv⟩ := hq_
    have hq_ := chk_ev h
    clear h
    obtain ⟨hb, h⟩ := hq_
    obtain ⟨us, h1, h2⟩ := src_slice (P := P) hsv
    exact ⟨m, us, h, hb, hsv.1, h1, h2, .inr ⟨_, rfl⟩⟩
  · simp [Q.ev] at h

theorem append_ok {o : Oper} {c : Call} {p : Pend} (hT : ∀ t i, E.T t = some i → TIok E.P t i) (hi : Inv O st a C) (hd : ∀ d : Nat, o.dst = some d → d < 1000) (ho : o.op = .call c) (hc : c.callee = .builtin .append) (h : (opQ E o).ev st = some p) : OpOk E O o a C p := by
  unfold opQ at h
  rw [ho] at h
  simp only [hc] at h
  have hq_ := opds_sound hi h
  clear h
  obtain ⟨vs, h, hv⟩ := hq_
  match vs, h, hv with
  | [], h, _ => simp [Q.ev] at h
  | [_], h, _ => simp [Q.ev] at h
  | _ :: _ :: _ :: _, h, _ => simp [Q.ev] at h
  | [s, x], h, hv =>
  obtain ⟨t, u, ys, yx, hz⟩ : ∃ t u ys yx, c.argTypes.toList.zip c.args.toList = [(t, ys), (u, yx)] := by
    match hz : c.argTypes.toList.zip c.args.toList, hv.length with
    | [(t, y), (u, z)], _ => exact ⟨t, u, y, z, rfl⟩
    | [], hl => simp at hl
    | [_], hl => simp at hl
    | _ :: _ :: _ :: _, hl => simp at hl
  rw [hz] at hv
  have hs : RA C s (a.eval ys) := hv.1
  have hx : RA C x (a.eval yx) := hv.2.1
  obtain ⟨tl, htl⟩ : ∃ tl, c.argTypes.toList = t :: u :: tl := by
    match hq : c.argTypes.toList, hq2 : c.args.toList, hz with
    | _ :: _ :: tl, _ :: _ :: _, hz => simp at hz; obtain ⟨⟨rfl, _⟩, ⟨rfl, _⟩, _⟩ := hz; exact ⟨tl, rfl⟩
    | [], _, hz => simp at hz
    | [_], [], hz => simp at hz
    | [_], _ :: _, hz => simp at hz
    | _ :: _ :: _, [], hz => simp at hz
    | _ :: _ :: _, [_], hz => simp at hz
  obtain ⟨al, hal⟩ : ∃ al, c.args.toList = ys :: yx :: al := by
    match hq : c.argTypes.toList, hq2 : c.args.toList, hz with
    | _ :: _ :: _, _ :: _ :: tl, hz => simp at hz; obtain ⟨⟨_, rfl⟩, ⟨_, rfl⟩, _⟩ := hz; exact ⟨tl, rfl⟩
    | [], _, hz => simp at hz
    | [_], [], hz => simp at hz
    | [_], _ :: _, hz => simp at hz
    | _ :: _ :: _, [], hz => simp at hz
    | _ :: _ :: _, [_], hz => simp at hz
  have e0 : c.argTypes[0]? = some t := by rw [← Array.getElem?_toList, htl]; rfl
  have e1 : c.argTypes[1]? = some u := by rw [← Array.getElem?_toList, htl]; rfl
  have e0' : c.argTypes.getD 0 0 = t := by simp [Array.getD_eq_getD_getElem?, e0]
  have e1' : c.argTypes.getD 1 0 = u := by simp [Array.getD_eq_getD_getElem?, e1]
  have e2 : (c.args.map a.eval)[0]? = some (a.eval ys) := by
    have : c.args[0]? = some ys := by rw [← Array.getElem?_toList, hal]; rfl
    simp [this]
  have e3 : (c.args.map a.eval)[1]? = some (a.eval yx) := by
    have : c.args[1]? = some yx := by rw [← Array.getElem?_toList, hal]; rfl
    simp [this]
  rw [e0', e1'] at h
  have to1 : ∀ {v' : Value} {w' : World}, (Builtin.append_ #[t, u] o.type #[a.eval ys, a.eval yx]).run E.P C.w = .ok v' w' → (execOp a.eval o).run E.P C.w = .ok (.value v') w' := by
    intro v' w' hr
    rw [append_congr (A := #[t, u]) (B := c.argTypes) (ys := c.args.map a.eval) (t' := o.type) (by rw [e0]; rfl) (by rw [e1]; rfl) (by rw [e2]; rfl) (by rw [e3]; rfl)] at hr
    simp only [execOp, ho, resolve, hc, Sem.run_bind, Sem.run_pure, Result.andThen_ok, invoke, builtin, hr]
  unfold appendQ at h
  have hq_ := ty_ev h
  clear h
  obtain ⟨i, ht, h⟩ := hq_
  have hq_ := ty_ev h
  clear h
  obtain ⟨j, hj, h⟩ := hq_
  have ok := hT _ i ht
  obtain ⟨dd, hdd, hu⟩ := ok.und
  obtain ⟨ud, hud, huu⟩ := (hT _ j hj).und
  cases hty : i.ty with
  | slice q =>
    rw [hty] at hu
    obtain ⟨rfl, hel, ji, zi, hji, hjb, hjp, hzi, hzc, hno⟩ := hu
    obtain ⟨ji', hji', hsz⟩ := hel.inf
    rw [hji] at hji'
    injection hji' with hji'
    subst hji'
    obtain ⟨uz, ez, hz2⟩ := zchk_ok (w := C.w) (RO := C.RO) q _ _ hno hzc
    rw [List.append_nil] at ez
    have hzsz : zi.cells.size = ji.size := by rw [← Array.length_toList, ez, hz2.length, hsz]
    have hqp := hel.pos
    have src : ∀ (l : List q.den) (k : List q.den → Q Pend), (addQ t u i.bytes q j.ty x l k).ev st = some p → ∃ (m : List q.den) (us : List Value), (k (l ++ m)).ev st = some p ∧ (l.length + m.length) * i.bytes ≤ 140737488355328 ∧ (∀ x ∈ m, wft q x) ∧
          Srcs E.P C.w ji.size (a.eval yx) m.length us ∧ Reps C.w C.RO (m.flatMap (enc q)) us ∧ ∀ k, ud ≠ .int k := by
      intro l k h
      rw [hsz]
      have hq := addQ_sound (P := E.P) hi hx h
      obtain ⟨m, us, h1, h2, h3, h4, h5, h6⟩ := hq
      refine ⟨m, us, h1, h2, h3, h4, h5, fun k => ?_⟩
      rcases h6 with h6 | ⟨s', h6⟩
      · rw [h6] at huu; rw [huu]; simp
      · rw [h6] at huu; rw [huu.1]; simp
    rw [hty] at h
    simp only at h
    cases s with
    | nils s' =>
      have hq_ := chk_ev h
      clear h
      obtain ⟨hs', h⟩ := hq_
      have hq_ := fresh_ev hi h
      clear h
      obtain ⟨d, hdst, hl, h⟩ := hq_
      obtain ⟨m, us, h, hb, hwm, hsrc, hrm, hint⟩ := src [] _ h
      obtain ⟨A, hA, eA⟩ := hs.nils
      simp only [List.length_nil, Nat.zero_add, List.nil_append] at hb h
      obtain ⟨v', w', hr, hown, hgr, hblk, _⟩ := run_append_gen (P := E.P) (w := C.w) (ty := o.type) hdd hud hint hji hzi hzsz (by rw [hsz]; exact hqp) hjp hsrc.len hsrc.lenOf hsrc.first hsrc.first' hsrc.one (v := a.eval ys) (n := 0) (xs := []) (.inl ⟨rfl, rfl, A, hA, eA⟩) (by rw [Nat.zero_add, hjb]; exact hb)
      have hbz : blkV (a.eval ys) = none := by rw [eA]; cases A <;> simp [blkV]
      rw [hbz] at hgr hblk
      simp only [Nat.zero_add, List.nil_append] at hown
      have hlim : m.length ≤ LIM := Nat.le_trans (Nat.le_mul_of_pos_right _ (by omega)) hb
      have hge : ∀ k, blkV v' = some k → C.w.heap.size ≤ k := fun k hk => by
        rcases hblk with h1 | h1
        · rw [h1] at hk; cases hk
        · exact h1 k hk
      obtain ⟨he, hc'⟩ := grow1 (d := d) (b := .sl q i.e 0 true m) (k := 0) (v := v') hi.c (below_of_grown hgr) hl (by have := hd d hdst; omega) (by
        rintro C' rfl he
        refine ⟨hqp, hlim, hwm, us, ?_, hrm.keep he.keep, fun b o hbo hro => ?_⟩
        · rw [Ctx.with_same, ← hsz]; exact hown
        · rw [Ctx.with_same] at hbo
          have := hge b hbo
          have := hi.c.wok.ro b o hro
          omega) (fun n hn => by
        simp only [blkOf, Ctx.with_same] at hn
        exact hge n hn)
      refine put1_ok h _ v' (to1 hr) he hc' rfl (.inr ⟨[v'], ⟨v', rfl, ?_, ⟨_, by simp [Ctx.with, look_cons]; rfl⟩, fun t e g' ex l hl => ?_⟩, rfl⟩)
      · rcases hown with ⟨_, _, A, _, rfl⟩ | ⟨g, cap, cur, rfl, _⟩ <;> exact ⟨rfl, rfl⟩
      · simp only [Ctx.with, look_cons, if_true, Option.some.injEq, Blk.sl.injEq] at hl
        exact ⟨Nat.zero_le _, fun _ => by simp [Ctx.with]⟩
    | own d g =>
      simp only [Q.ev] at h
      rcases hbs : st.s d with _ | (⟨s', bv⟩ | ⟨u', e', g', ex, l⟩ | _) <;> rw [hbs] at h <;> try (simp [Q.ev] at h; done)
      have hl : look C.si d = some (.sl u' e' g' ex l) := by rw [hi.si]; exact hbs
      have hq_ := chk_ev h
      clear h
      obtain ⟨⟨hg, hu', he'⟩, h⟩ := hq_
      have hq_ := opt_ev h
      clear h
      obtain ⟨l', hl', h⟩ := hq_
      obtain rfl := hg; obtain rfl := he'; subst hu'
      have hl' := (castT_self hl').symm
      subst hl'
      obtain ⟨m, us, h, hb, hwm, hsrc, hrm, hint⟩ := src _ _ h
      obtain ⟨cs, ⟨v, rfl, _, _, hvν⟩, e⟩ := hs.rc (by simp)
      simp only [AV.agg, pack, Bool.false_eq_true, if_false, List.headD_cons] at e
      have hvν := (hvν _ _ _ _ _ hl).2 rfl
      subst hvν
      obtain ⟨_, hlim, hwl, vs, hown0, hrl, hro0⟩ := hi.c.wok.site d _ hl
      obtain ⟨v', w', hr, hown, hgr, hblk, hkeep⟩ := run_append_gen (P := E.P) (w := C.w) (ty := o.type) hdd hud hint hji hzi hzsz (by rw [hsz]; exact hqp) hjp hsrc.len hsrc.lenOf hsrc.first hsrc.first' hsrc.one (v := a.eval ys) (n := l.length) (xs := vs) (by rw [e, hsz]; exact hown0) (by rw [hjb]; exact hb)
      rw [e] at hgr hblk hkeep
      have hlim' : (l ++ m).length ≤ LIM := by rw [List.length_append]; exact Nat.le_trans (Nat.le_mul_of_pos_right _ (by omega)) hb
      have tc := touch (d := d) (b := .sl u' i.e g ex l) (b' := .sl u' i.e (g + 1) ex (l ++ m)) (v := v') (w' := w') hi.c hl (row := blkV (C.ν d)) rfl hgr
        (fun k o u hk hro hcell => hkeep k o u hk (by rw [hsz]; exact (hro0 k o hk hro).2) hcell)
        ⟨(fun t v' hbx => by cases hbx), (fun t e g' ex' l' hbx => by cases hbx; exact ⟨g, ex, l, rfl, by omega, fun e => by omega⟩)⟩
        (by
          rintro C' rfl he
          refine ⟨hqp, hlim', fun x hx => ?_, vs ++ us, ?_, ?_, fun b o hbo hro => ?_⟩
          · rcases List.mem_append.1 hx with hx | hx
            · exact hwl x hx
            · exact hwm x hx
          · rw [Ctx.with_same, ← hsz, List.length_append]; exact hown
          · rw [List.flatMap_append]; exact (hrl.keep he.keep).append (hrm.keep he.keep)
          · rw [Ctx.with_same] at hbo
            rcases hblk with h1 | h1
            · rw [h1] at hbo
              obtain ⟨h2, h3⟩ := hro0 b o hbo hro
              exact ⟨h2, Nat.lt_of_lt_of_le h3 (Nat.mul_le_mul_right _ (by simp))⟩
            · have := h1 b hbo
              have := hi.c.wok.ro b o hro
              omega)
        (fun n hn => by
          simp only [blkOf, Ctx.with_same] at hn
          rcases hblk with h1 | h1
          · rw [h1] at hn; exact .inl hn
          · exact .inr (h1 n hn))
      refine put1_ok h _ v' (to1 hr) tc.1 tc.2 rfl (.inr ⟨[v'], ⟨v', rfl, ?_, ⟨_, by simp [Ctx.with, look_cons]; rfl⟩, fun t e g' ex l hl => ?_⟩, rfl⟩)
      · rcases hown with ⟨_, _, A, _, rfl⟩ | ⟨g, cap, cur, rfl, _⟩ <;> exact ⟨rfl, rfl⟩
      · simp only [Ctx.with, look_cons, if_true, Option.some.injEq, Blk.sl.injEq] at hl
        obtain ⟨_, _, rfl, _⟩ := hl
        exact ⟨Nat.le_refl _, fun _ => by simp [Ctx.with]⟩
    | _ => simp [Q.ev] at h
  | _ => rw [hty] at h; simp [Q.ev] at h

/-! ### Slices that are made -/
theorem madeCells_take (z : Array Value) (hz : 0 < z.size) : ∀ (n m : Nat), n ≤ m → ((madeCells z (m * z.size)).toList.take (n * z.size)) = (List.replicate n z.toList).flatten := by
  intro n
  induction n with
  | zero => intro m _; simp
  | succ n ih =>
    intro m hm
    have hlen : (madeCells z (m * z.size)).toList.length = m * z.size := by rw [Array.length_toList, size_madeCells]
    have h1 : (n + 1) * z.size = n * z.size + z.size := by rw [Nat.add_mul, Nat.one_mul]
    have h2 : (n + 1) * z.size ≤ m * z.size := Nat.mul_le_mul_right _ hm
    rw [h1, List.take_add, ih m (by omega), List.replicate_succ', List.flatten_append]
    congr 1
    simp only [List.flatten_cons, List.flatten_nil, List.append_nil]
    apply List.ext_getElem?
    intro k
    rw [List.getElem?_take]
    by_cases hk : k < z.size
    · rw [if_pos hk, List.getElem?_drop]
      have hlt : n * z.size + k < m * z.size := by omega
      have : (madeCells z (m * z.size)).toList[n * z.size + k]? = some (z[(n * z.size + k) % z.size]!) := by
        simp only [madeCells, Array.getElem?_toList]
        rw [Array.getElem?_map, Array.getElem?_range]
        simp [hlt]
      rw [this, Nat.add_comm, Nat.add_mul_mod_self_right, Nat.mod_eq_of_lt hk]
      simp [hk]
    · rw [if_neg hk, List.getElem?_eq_none (by simp; omega)]
theorem reps_replicate {w : World} {RO : Nat → Nat → Prop} {u : Ty} {us : List Value} (h : RepT w RO u (zeroT u) us) : ∀ n, Reps w RO ((List.replicate n (zeroT u)).flatMap (enc u)) (List.replicate n us).flatten
  | 0 => Reps.nil
  | n + 1 => by
    simp only [List.replicate_succ, List.flatMap_cons, List.flatten_cons]
    exact h.2.append (reps_replicate h n)
theorem makeSlice_ok {o : Oper} {t : TypeId} {x y : Operand} {p : Pend} (hT : ∀ t i, E.T t = some i → TIok E.P t i) (hi : Inv O st a C) (hd : ∀ d : Nat, o.dst = some d → d < 1000) (ho : o.op = .makeSlice t x y) (h : (opQ E o).ev st = some p) : OpOk E O o a C p := by
  unfold opQ at h
  rw [ho] at h
  have hq_ := ty_ev h
  clear h
  obtain ⟨i, ht, h⟩ := hq_
  have ok := hT t i ht
  obtain ⟨dd, hdd, hu⟩ := ok.und
  cases hty : i.ty with
  | slice q =>
    rw [hty] at hu h
    obtain ⟨rfl, hel, ji, zi, hji, hjb, hjp, hzi, hzc, hno⟩ := hu
    obtain ⟨ji', hji', hsz⟩ := hel.inf
    rw [hji] at hji'
    injection hji' with hji'
    subst hji'
    obtain ⟨uz, ez, hz2⟩ := zchk_ok (w := C.w) (RO := C.RO) q _ _ hno hzc
    rw [List.append_nil] at ez
    have hzsz : zi.cells.size = ji.size := by rw [← Array.length_toList, ez, hz2.length, hsz]
    have hqp := hel.pos
    have hq_ := opd_sound hi h
    clear h
    obtain ⟨vl, h, hvl⟩ := hq_
    have hq_ := opd_sound hi h
    clear h
    obtain ⟨vc, h, hvc⟩ := hq_
    have hq_ := asInt_ev h
    clear h
    obtain ⟨jl, n, rfl, h⟩ := hq_
    have hq_ := asInt_ev h
    clear h
    obtain ⟨jc, m, rfl, h⟩ := hq_
    have hq_ := chk_ev h
    clear h
    obtain ⟨⟨h0, h1, h2⟩, h⟩ := hq_
    have hq_ := fresh_ev hi h
    clear h
    obtain ⟨d, hdst, hl, h⟩ := hq_
    have el := hvl.int
    have ec := hvc.int
    rw [← hjb] at h2
    have hm63 : m ≤ 140737488355328 := by
      have : m * 1 ≤ m * (ji.bytes : Int) := Int.mul_le_mul_of_nonneg_left (by omega) (by omega)
      omega
    have hr := run_make (P := E.P) C.w t i.e ji zi hdd hji hzi jl jc n m h0 h1 (by rw [Int.mul_comm]; omega) (by omega)
    have hb := below_alloc C.w (.cells (madeCells zi.cells (m.toNat * ji.size)) i.e)
    have hown : OwnV (C.w.alloc (.cells (madeCells zi.cells (m.toNat * ji.size)) i.e)) i.e q.size (.slice (some ⟨C.w.heap.size, 0, none⟩) n.toNat m.toNat) n.toNat (List.replicate n.toNat uz).flatten := by
      rcases Nat.eq_zero_or_pos m.toNat with hm | hm
      · have : n.toNat = 0 := by omega
        rw [this, hm]
        exact .inl ⟨rfl, rfl, _, rfl, rfl⟩
      · refine .inr ⟨_, _, _, rfl, hm, heap_alloc_new _ _, by omega, by simp only [maxLen]; omega, by rw [size_madeCells, hsz], ?_⟩
        rw [← hsz, ← hzsz, madeCells_take zi.cells (by omega) _ _ (by omega), ez]
    have hge : ∀ k, blkV (.slice (some ⟨C.w.heap.size, 0, none⟩) n.toNat m.toNat) = some k → C.w.heap.size ≤ k := fun k hk => by
      simp only [blkV] at hk
      split at hk
      · simp at hk; omega
      · simp at hk
    obtain ⟨he, hc'⟩ := grow1 (d := d) (b := .sl q i.e 0 true (List.replicate n.toNat (zeroT q))) (k := 0) (v := .slice (some ⟨C.w.heap.size, 0, none⟩) n.toNat m.toNat) hi.c hb hl (by have := hd d hdst; omega) (by
      rintro C' rfl he
      refine ⟨hqp, by simp [LIM]; omega, fun x hx => ?_, _, ?_, (reps_replicate hz2 n.toNat).keep he.keep, fun b o hbo hro => ?_⟩
      · rw [List.eq_of_mem_replicate hx]; exact hz2.1
      · rw [Ctx.with_same, List.length_replicate]; exact hown
      · rw [Ctx.with_same] at hbo
        have := hge b hbo
        have := hi.c.wok.ro b o hro
        omega) (fun n hn => by
      simp only [blkOf, Ctx.with_same] at hn
      exact hge n hn)
    refine put1_ok h _ _ (by simp only [execOp, ho, Sem.run_bind, el, ec, hr, Result.andThen_ok, Sem.run_pure]; rfl) he hc' rfl (.inr ⟨[_], ⟨_, rfl, ⟨rfl, rfl⟩, ⟨_, by simp [Ctx.with, look_cons]; rfl⟩, fun t e g' ex l hl => ?_⟩, rfl⟩)
    simp only [Ctx.with, look_cons, if_true, Option.some.injEq, Blk.sl.injEq] at hl
    exact ⟨Nat.zero_le _, fun _ => by simp [Ctx.with]⟩
  | _ => rw [hty] at h; simp [Q.ev] at h

theorem toTs_sound {t : Ty} (ht : 0 < t.size) {α : Type} {r : α} (hi : Inv O st a C) : ∀ (vs : List AV) (xs : List Value) (k : List t.den → List (Nat × Blk) → Q α), RAs C vs xs → (toTs t vs k).ev st = some r →
    ∃ l m, (k l m).ev st = some r ∧ Valid C m ∧ l.length = vs.length ∧ (∀ x ∈ l, wft t x) ∧ (∀ v ∈ xs, v.cells.size = t.size) ∧ Reps C.w (ROm C m) (l.flatMap (enc t)) (xs.flatMap fun v => v.cells.toList)
  | [], [], k, _, h => ⟨[], [], h, Valid.nil C, rfl, by simp, by simp, Reps.nil⟩
  | v :: vs, x :: xs, k, hr, h => by
    simp only [toTs] at h
    have hag := toT_agg h
    obtain ⟨us, hus, e⟩ := hr.1.rc (by rintro rfl; cases t <;> simp [toT, toT0, Q.ev] at h)
    have hq_ := toT_sound hi.si hi.c.wok v t us _ hus h
    clear h
    obtain ⟨y, m, h, hm, hy⟩ := hq_
    have hq_ := toTs_sound ht hi vs xs _ hr.2 h
    clear h
    obtain ⟨l, n, h, hn, h1, h2, h3, h4⟩ := hq_
    have hc : x.cells = us.toArray := by
      have hyl := hy.length
      rw [e, hag]
      unfold pack
      cases ha : t.isAgg with
      | true => rfl
      | false =>
        have hs1 : t.size = 1 := by cases t <;> simp_all [Ty.isAgg, Ty.size]
        rw [hs1] at hyl
        have hone := hy.one
        match us, hyl, hone with
        | [q], _, hone => simp only [Bool.false_eq_true, if_false, List.headD_cons]; exact (hone q (by simp)).1
    refine ⟨y :: l, m ++ n, h, hm.append hn, by simp [h1], fun z hz => ?_, fun z hz => ?_, ?_⟩
    · rcases List.mem_cons.1 hz with rfl | hz
      · exact hy.1
      · exact h2 z hz
    · rcases List.mem_cons.1 hz with rfl | hz
      · rw [hc]; simpa using hy.length
      · exact h3 z hz
    · simp only [List.flatMap_cons]
      refine Reps.append ?_ (h4.keep (keep_mono (fun z hz => by simp [hz])))
      rw [hc]
      exact hy.2.keep (keep_mono (fun z hz => by simp [hz]))
  | [], _ :: _, _, h, _ => h.elim
  | _ :: _, [], _, h, _ => h.elim
theorem zip_range : ∀ (l : List (Nat × Value)) (s : Nat), l.map (·.1) = List.range' s l.length → l = ((l.map (·.2)).zipIdx s).map fun x => (x.2, x.1)
  | [], _, _ => rfl
  | (j, v) :: l, s, h => by
    simp only [List.map_cons, List.length_cons, List.range'_succ, List.cons.injEq] at h
    obtain ⟨rfl, h⟩ := h
    simp only [List.map_cons, List.zipIdx_cons]
    rw [← zip_range l _ h]
theorem buildSlice_ok {o : Oper} {t : TypeId} {n : Nat} {ps : Array (Nat × Operand)} {p : Pend} (hT : ∀ t i, E.T t = some i → TIok E.P t i) (hi : Inv O st a C) (hd : ∀ d : Nat, o.dst = some d → d < 1000) (ho : o.op = .buildSlice t n ps) (h : (opQ E o).ev st = some p) : OpOk E O o a C p := by
  unfold opQ at h
  rw [ho] at h
  have hq_ := ty_ev h
  clear h
  obtain ⟨i, ht, h⟩ := hq_
  have ok := hT t i ht
  obtain ⟨dd, hdd, hu⟩ := ok.und
  cases hty : i.ty with
  | slice q =>
    rw [hty] at hu h
    obtain ⟨rfl, hel, ji, zi, hji, hjb, hjp, hzi, hzc, hno⟩ := hu
    obtain ⟨ji', hji', hsz⟩ := hel.inf
    rw [hji] at hji'
    injection hji' with hji'
    subst hji'
    have hqp := hel.pos
    simp only at h
    have hq_ := chk_ev h
    clear h
    obtain ⟨hps, h⟩ := hq_
    have hq_ := opds_sound hi h
    clear h
    obtain ⟨vs, h, hvs⟩ := hq_
    have hpl : ps.toList.length = n := by have := congrArg List.length hps; simpa using this
    have hvl := hvs.length
    simp only [List.length_map] at hvl
    cases n with
    | zero =>
      have hps0 : ps = #[] := by apply Array.ext'; exact List.eq_nil_of_length_eq_zero hpl
      subst hps0
      have hr : (Instr.buildSlice t 0 #[]).run E.P C.w = .ok (.slice (some ⟨C.w.heap.size, 0, none⟩) 0 0) (C.w.alloc (.cells #[] i.e)) := by
        simp [Instr.buildSlice, run_underlying hdd, sizeOf, typeInfo, hji, Instr.fill, newRow, Array.range_zero']
      obtain ⟨he, hc'⟩ := grow0 hi.c (below_alloc C.w (.cells #[] i.e)) C.RO (fun _ _ h => h) (fun _ _ h => .inl h)
      exact put1_ok h _ _ (by simp only [execOp, ho, Sem.run_bind, List.map_toArray, List.map_nil, hr, Result.andThen_ok, Sem.run_pure]; rfl) he hc' rfl (.inr ⟨[_], ⟨_, rfl, rfl⟩, rfl⟩)
    | succ n =>
      simp only at h
      have hq_ := chk_ev h
      clear h
      obtain ⟨hbig, h⟩ := hq_
      have hq_ := toTs_sound hqp hi vs _ _ hvs h
      clear h
      obtain ⟨l, m, h, hm, hll, hwl, hcs, hrep⟩ := hq_
      have hq_ := fresh_ev hi h
      clear h
      obtain ⟨d, hdst, hl, h⟩ := hq_
      have hxs : ((ps.toList.map fun p => (i.e, p.2)).map fun x => a.eval x.2) = ps.toList.map fun p => a.eval p.2 := by rw [List.map_map]; rfl
      rw [hxs] at hcs hrep
      have hfill : Instr.fill (fun i => some (i * ji.size, ji.size)) ((Array.range ((n + 1) * ji.size)).map (zi.cells[· % zi.cells.size]!)) (ps.map fun (i, x) => (i, a.eval x)).toList = some ((ps.toList.map fun p => a.eval p.2).flatMap fun v => v.cells.toList).toArray := by
        have e1 : (ps.map fun (i, x) => (i, a.eval x)).toList = ps.toList.map fun x => (x.1, a.eval x.2) := by simp
        have e2 := zip_range (ps.toList.map fun x => (x.1, a.eval x.2)) 0 (by rw [List.map_map, List.length_map, hpl, ← List.range_eq_range', ← hps]; rfl)
        have e3 : (ps.toList.map fun x => (x.1, a.eval x.2)).map (·.2) = ps.toList.map fun p => a.eval p.2 := by rw [List.map_map]; rfl
        rw [e3] at e2
        rw [e1, e2, hsz]
        exact Go.Great.fill_whole hqp _ _ hcs (by simp [hpl])
      have hr := run_buildSlice (P := E.P) C.w t i.e (n + 1) (ps.map fun (i, x) => (i, a.eval x)) _ ji zi hdd hji hzi (by rw [hsz]; omega) (by rw [hsz]; exact Nat.mul_ne_zero (by omega) (by omega)) hfill
      have hb := below_alloc C.w (.cells ((ps.toList.map fun p => a.eval p.2).flatMap fun v => v.cells.toList).toArray i.e)
      have hln : l.length = n + 1 := by rw [hll, hvl, hpl]
      have hcl : ((ps.toList.map fun p => a.eval p.2).flatMap fun v => v.cells.toList).length = (n + 1) * q.size := by
        rw [← hrep.1, length_flatMap_of _ _ _ (fun x hx => length_enc q x (hwl x hx)), hln]
      have hn1 : n + 1 ≤ 16777216 := Nat.le_trans (Nat.le_mul_of_pos_right _ hqp) hbig
      have hdm : look (m ++ C.si) d = none := by
        rw [look_append, hl, Option.or_none]
        cases hmd : look m d with
        | none => rfl
        | some b =>
          rcases hm _ (look_mem hmd) with ⟨_, _, _, _, _, _, h2⟩ | ⟨_, _, _, h2, _⟩
          · simp only at h2; rw [hl] at h2; cases h2
          · simp only at h2; rw [hl] at h2; cases h2
      obtain ⟨he, hc'⟩ := grow1 (C := C.mk' m) (d := d) (b := .sl q i.e 0 true l) (k := 0) (v := .slice (some ⟨C.w.heap.size, 0, none⟩) (n + 1) (n + 1)) (hi.c.mark hm) hb hdm (by have := hd d hdst; omega) (by
        rintro C' rfl he
        refine ⟨hqp, by rw [hln]; simp only [LIM]; omega, hwl, _, ?_, hrep.keep he.keep, fun b o hbo hro => ?_⟩
        · rw [Ctx.with_same, hln]
          refine .inr ⟨_, _, _, rfl, by omega, heap_alloc_new _ _, Nat.le_refl _, by simp only [maxLen]; omega, by simpa using hcl, ?_⟩
          exact List.take_of_length_le (Nat.le_of_eq hcl)
        · rw [Ctx.with_same] at hbo
          simp [blkV] at hbo
          have := (hi.c.mark hm).wok.ro b o hro
          have e : (C.mk' m).w = C.w := rfl
          rw [e] at this
          omega) (fun n hn => by
        simp only [blkOf, Ctx.with_same] at hn
        simp [blkV] at hn
        rw [← hn]
        exact Nat.le_refl _)
      refine put1_ok h _ _ (by simp only [execOp, ho, Sem.run_bind, hr, Result.andThen_ok, Sem.run_pure]; rfl) ((Ext.mark hm).trans he) hc' rfl (.inr ⟨[_], ⟨_, rfl, ⟨rfl, rfl⟩, ⟨_, by simp [Ctx.with, look_cons]; rfl⟩, fun t e g' ex l hl => ?_⟩, rfl⟩)
      simp only [Ctx.with, look_cons, if_true, Option.some.injEq, Blk.sl.injEq] at hl
      exact ⟨Nat.zero_le _, fun _ => by simp [Ctx.with]⟩
  | _ => rw [hty] at h; simp [Q.ev] at h
end Go.Proofs.Cdm
