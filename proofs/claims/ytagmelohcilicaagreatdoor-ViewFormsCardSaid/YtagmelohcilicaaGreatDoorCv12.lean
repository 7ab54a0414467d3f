/-
Operations, fifth part: cuts, conversions, comparisons.
-/
import Derived.Test.YtagmelohcilicaaGreatDoorCv11
namespace Go.Proofs.Cdm
open Go Go.RowKit
variable {E : Env} {O : Old} {st : St} {a : Act} {C : Ctx}

def BndOk : Option Nat → Option Value → Prop
  | none, none => True
  | some m, some v => ∃ j, v = .int j (m : Int)
  | _, _ => False
theorem bndOpd_sound {α : Type} {t : TypeId} {lo : Option Operand} {k : Option Nat → Q α} {r : α} (hi : Inv O st a C) (h : (bndOpd E t lo k).ev st = some r) :
    ∃ b, (k b).ev st = some r ∧ BndOk b (lo.map a.eval) := by
  cases lo with
  | none => exact ⟨none, h, trivial⟩
  | some x =>
    have hq_ := opd_sound hi h
    clear h
    obtain ⟨v, h, hv⟩ := hq_
    simp only [bnd] at h
    split at h
    · rename_i e; cases e
    · rename_i j n e
      injection e with e
      subst e
      have h1 := (chk_ev h).1
      exact ⟨_, (chk_ev h).2, j, by
        show a.eval x = _
        rw [hv.int]
        congr 1
        have h2 : (0 : Int) ≤ n := h1
        omega⟩
    · simp [Q.ev] at h
theorem run_sliceBound {P : Program} {w : World} (j : IntKind) (m y : Nat) (c : BoundsCode) (h : m ≤ y) : (Instr.sliceBound (.int j (m : Int)) y c).run P w = .ok m w := by
  simp only [Instr.sliceBound, Go.asIntOf, Sem.run_bind, Sem.run_pure, Result.andThen_ok]
  rw [if_pos (by omega)]
  simp
theorem run_sliceBounds {P : Program} {w : World} {lo hi : Option Nat} {low high : Option Value} (s : Bool) (len cap : Nat) (h1 : BndOk lo low) (h2 : BndOk hi high) (hc : hi.getD len ≤ cap) (hl : lo.getD 0 ≤ hi.getD len) :
    (Instr.sliceBounds s len cap low high none).run P w = .ok (lo.getD 0, hi.getD len, cap) w := by
  unfold Instr.sliceBounds
  rcases lo with _ | lo <;> rcases low with _ | low <;> try (exact h1.elim)
  all_goals rcases hi with _ | hi <;> rcases high with _ | high <;> try (exact h2.elim)
  all_goals simp only [Sem.run_bind, Sem.run_pure, Result.andThen_ok, Option.getD_none, Option.getD_some] at *
  · obtain ⟨j, rfl⟩ := h2
    rw [run_sliceBound _ _ _ _ hc]
    simp
  · obtain ⟨j, rfl⟩ := h1
    simp only [Option.isSome_none]
    rw [run_sliceBound _ _ _ _ hl]
    simp
  · obtain ⟨j, rfl⟩ := h1
    obtain ⟨j', rfl⟩ := h2
    rw [run_sliceBound _ _ _ _ hc]
    simp only [Result.andThen_ok]
    rw [run_sliceBound _ _ _ _ hl]
    simp

theorem cutL_ev {α β : Type} {l : List β} {lo hi : Option Nat} {k : List β → Q α} {r : α} (h : (cutL l lo hi k).ev st = some r) :
    lo.getD 0 ≤ hi.getD l.length ∧ hi.getD l.length ≤ l.length ∧ (k ((l.take (hi.getD l.length)).drop (lo.getD 0))).ev st = some r := by
  rcases lo with _ | lo <;> rcases hi with _ | hi <;> simp only [cutL] at h
  · exact ⟨by simp, by simp, by simpa using h⟩
  · have h1 := (chk_ev h).1
    exact ⟨by simp, by simpa using h1, by simpa using (chk_ev h).2⟩
  · have h1 := (chk_ev h).1
    exact ⟨by simpa using h1, by simp, by simpa using (chk_ev h).2⟩
  · have h1 := (chk_ev h).1
    have h2 := (chk_ev h).2
    have h3 := (chk_ev h2).1
    exact ⟨by simpa using h1, by simpa using h3, by simpa using (chk_ev h2).2⟩

theorem plainA_cut {A : Option Addr} (h : plainA A = true) (p : Prop) [Decidable p] (k : Nat) : plainA (if p then A else A.map (·.add k)) = true := by
  split
  · exact h
  · cases A with
    | none => rfl
    | some a =>
      obtain ⟨b, o, sp⟩ := a
      cases sp with
      | none => simp only [Option.map_some, Addr.add_lit]; rfl
      | some s => simp [plainA] at h
/-- A cut of a slice that is read alone. -/
theorem cut_rep {w : World} {RO : Nat → Nat → Prop} {u : Ty} {l : List u.den} {val : Value} (h : RepT w RO (.slice u) l [val]) (lo hi : Nat) (h1 : lo ≤ hi) (h2 : hi ≤ l.length) :
    ∃ A c, val = .slice A l.length c ∧ l.length ≤ c ∧ RepT w RO (.slice u) ((l.take hi).drop lo) [.slice (if c = lo then A else A.map (·.add (lo * u.size))) (hi - lo) (c - lo)] := by
  have hf := h.1
  have hr := h.2.2 0 (by simp [enc]) (by simp)
  have hf' : ∀ x ∈ (l.take hi).drop lo, wft u x := fun x hx => hf x (List.mem_of_mem_take (List.mem_of_mem_drop hx))
  have key : ∀ (dv : DV), dv = .sl l.length (l.flatMap (enc u)) → Rep w RO dv val →
      ∃ A c, val = .slice A l.length c ∧ l.length ≤ c ∧ RepT w RO (.slice u) ((l.take hi).drop lo) [.slice (if c = lo then A else A.map (·.add (lo * u.size))) (hi - lo) (c - lo)] := by
    intro dv hdv hrep
    cases hrep with
    | sl0 A c ha =>
      injection hdv with e1 e2
      have hl : l = [] := List.eq_nil_of_length_eq_zero e1.symm
      subst hl
      simp at h2
      subst h2
      obtain rfl : lo = 0 := by omega
      refine ⟨A, c, rfl, Nat.zero_le _, hf', ?_⟩
      simp only [enc, List.take_nil, List.drop_nil, List.length_nil, List.flatMap_nil]
      exact Reps.one (.sl0 _ _ (plainA_cut ha _ _))
    | sl n cells b o c vs hn hm hc hcell hro r =>
      injection hdv with e1 e2
      subst e1 e2
      refine ⟨some ⟨b, o, none⟩, c, rfl, hc, hf', ?_⟩
      have hlen : ((l.take hi).drop lo).length = hi - lo := by simp; omega
      simp only [enc, hlen]
      apply Reps.one
      by_cases hz : hi - lo = 0
      · have : (l.take hi).drop lo = [] := List.eq_nil_of_length_eq_zero (by rw [hlen]; exact hz)
        rw [this, hz]
        exact .sl0 _ _ (plainA_cut (A := some ⟨b, o, none⟩) rfl _ _)
      · have hcl : ¬ c = lo := by omega
        rw [if_neg hcl, Option.map_some, Addr.add_lit]
        have hle : ∀ x ∈ l, (enc u x).length = u.size := fun x hx => length_enc u x (hf x hx)
        have hfl : ((l.take hi).drop lo).flatMap (enc u) = ((l.flatMap (enc u)).take (hi * u.size)).drop (lo * u.size) := by
          have t1 : ∀ (m : List u.den) (k : Nat), (∀ x ∈ m, (enc u x).length = u.size) → (m.take k).flatMap (enc u) = (m.flatMap (enc u)).take (k * u.size) := by
            intro m
            induction m with
            | nil => intro k _; simp
            | cons x m ih =>
              intro k hm
              cases k with
              | zero => simp
              | succ k =>
                have hx := hm x (by simp)
                have e : (enc u x ++ m.flatMap (enc u)).take (k * u.size + u.size) = enc u x ++ (m.flatMap (enc u)).take (k * u.size) := by
                  rw [List.take_append, List.take_of_length_le (show (enc u x).length ≤ k * u.size + u.size by omega), hx, Nat.add_sub_cancel]
                rw [List.take_succ_cons, List.flatMap_cons, ih k (fun y hy => hm y (by simp [hy])), List.flatMap_cons, Nat.add_mul, Nat.one_mul, e]
          have t2 : ∀ (m : List u.den) (k : Nat), (∀ x ∈ m, (enc u x).length = u.size) → (m.drop k).flatMap (enc u) = (m.flatMap (enc u)).drop (k * u.size) := by
            intro m
            induction m with
            | nil => intro k _; simp
            | cons x m ih =>
              intro k hm
              cases k with
              | zero => simp
              | succ k =>
                rw [List.drop_succ_cons, ih k (fun y hy => hm y (by simp [hy])), List.flatMap_cons, Nat.add_mul, Nat.one_mul, Nat.add_comm (k * u.size), ← List.drop_drop, List.drop_left' (hm x (by simp))]
          rw [t2 _ _ (fun x hx => hle x (List.mem_of_mem_take hx)), t1 _ _ hle]
        have hll : (l.flatMap (enc u)).length = l.length * u.size := length_flatMap_of _ _ _ hle
        have hcl2 : (((l.take hi).drop lo).flatMap (enc u)).length = (hi - lo) * u.size := by
          rw [length_flatMap_of (enc u) u.size _ (fun x hx => hle x (List.mem_of_mem_take (List.mem_of_mem_drop hx))), hlen]
        have hmul : (hi - lo) * u.size + lo * u.size ≤ l.length * u.size := by
          rw [← Nat.add_mul]; exact Nat.mul_le_mul_right _ (by omega)
        refine .sl _ _ _ _ _ (fun j => vs (lo * u.size + j)) (by omega) (by omega) (by omega) (fun j hj => ?_) (fun j hj => ?_) (fun j hj => ?_)
        · rw [Nat.add_assoc]; exact hcell _ (by omega)
        · rw [Nat.add_assoc]; exact hro _ (by omega)
        · have := r (lo * u.size + j) (by omega)
          have e3 : (((l.take hi).drop lo).flatMap (enc u))[j] = (l.flatMap (enc u))[lo * u.size + j]'(by omega) := by
            simp only [hfl, List.getElem_drop, List.getElem_take]
          rw [e3]
          exact this
    | _ => cases hdv
  exact key _ rfl hr

theorem slice_ok {o : Oper} {t : TypeId} {x : Operand} {lo hi' mx : Option Operand} {p : Pend} (hT : ∀ t i, E.T t = some i → TIok E.P t i) (hi : Inv O st a C) (ho : o.op = .slice t x lo hi' mx) (h : (opQ E o).ev st = some p) : OpOk E O o a C p := by
  unfold opQ at h
  rw [ho] at h
  have hq_ := opd_sound hi h
  clear h
  obtain ⟨v, h, hv⟩ := hq_
  have hq_ := bndOpd_sound hi h
  clear h
  obtain ⟨bl, h, hbl⟩ := hq_
  have hq_ := bndOpd_sound hi h
  clear h
  obtain ⟨bh, h, hbh⟩ := hq_
  have hq_ := bndOpd_sound hi h
  clear h
  obtain ⟨bm, h, hbm⟩ := hq_
  unfold sliceQ at h
  have hq_ := ty_ev h
  clear h
  obtain ⟨i, ht, h⟩ := hq_
  have ok := hT _ i ht
  obtain ⟨d, hd, hu⟩ := ok.und
  have to1 : ∀ {w' : World} {val : Value}, (Instr.sliceAt t (a.eval x) (lo.map a.eval) (hi'.map a.eval) (mx.map a.eval)).run E.P C.w = .ok val w' → (execOp a.eval o).run E.P C.w = .ok (.value val) w' := by
    intro w' val hr
    simp only [execOp, ho, Sem.run_bind, hr, Result.andThen_ok, Sem.run_pure]
  cases hty : i.ty with
  | str =>
    rw [hty] at hu h
    subst hu
    cases bm with
    | some m => simp [Q.ev] at h
    | none =>
      have hmx : mx.map a.eval = none := by cases hm : mx.map a.eval with | none => rfl | some _ => rw [hm] at hbm; exact hbm.elim
      cases v with
      | ro s z =>
        cases s with
        | str =>
          obtain ⟨ex, hlen⟩ := hv.str
          obtain ⟨h1, h2, h3⟩ := cutL_ev h
          refine put1_same hi h3 (.string ⟨((z.take (bh.getD z.length)).drop (bl.getD 0)).toArray⟩) (to1 ?_) (.ofStr _ (by simp; omega))
          unfold Instr.sliceAt
          simp only [Sem.run_bind, run_underlying hd, Result.andThen_ok]
          unfold Instr.slice
          simp only [Sem.run_bind, run_underlying hd, Result.andThen_ok, ex, hmx, Option.isSome_none, Bool.false_eq_true, if_false]
          have hsz : (⟨z.toArray⟩ : ByteArray).size = z.length := rfl
          rw [hsz, run_sliceBounds false z.length z.length hbl hbh h2 h1]
          simp only [Result.andThen_ok, Sem.run_pure, ByteArray.extract_mk, List.drop_take]
        | _ => simp [Q.ev] at h
      | _ => simp [Q.ev] at h
  | slice u =>
    rw [hty] at hu h
    obtain ⟨rfl, hel, _⟩ := hu
    obtain ⟨ej, h5, h6⟩ := hel.inf
    have run : ∀ A n c, a.eval x = .slice A n c → mx.map a.eval = none → bh.getD n ≤ c → bl.getD 0 ≤ bh.getD n →
        (Instr.sliceAt t (a.eval x) (lo.map a.eval) (hi'.map a.eval) (mx.map a.eval)).run E.P C.w = .ok (.slice (if c = bl.getD 0 then A else A.map (·.add (bl.getD 0 * u.size))) (bh.getD n - bl.getD 0) (c - bl.getD 0)) C.w := by
      intro A n c ex hmx h1 h2
      unfold Instr.sliceAt
      simp only [Sem.run_bind, run_underlying hd, Result.andThen_ok]
      unfold Instr.slice
      simp only [Sem.run_bind, run_underlying hd, Result.andThen_ok, ex, hmx]
      rw [run_sliceBounds true n c hbl hbh h1 h2]
      simp only [Result.andThen_ok, run_sizeOf' h5, h6, Sem.run_pure]
    cases bm with
    | none =>
      have hmx : mx.map a.eval = none := by cases hm : mx.map a.eval with | none => rfl | some _ => rw [hm] at hbm; exact hbm.elim
      have h' : (∃ s, v = .nils s ∧ (Q.chk (bl.getD 0 = 0 ∧ bh.getD 0 = 0) inferInstance (put1 o (.nils u) [])).ev st = some p) ∨
          (toT0 (.slice u) v fun l m => cutL l bl bh fun l' => put1 o (.ro (.slice u) l') m).ev st = some p := by
        cases v with
        | nils s => exact .inl ⟨s, rfl, h⟩
        | _ => exact .inr h
      rcases h' with ⟨s, rfl, h⟩ | h
      · obtain ⟨A, hA, ex⟩ := hv.nils
        obtain ⟨hb1, hb2⟩ := (chk_ev h).1
        have hr := run A 0 0 ex hmx (by omega) (by omega)
        rw [hb1, hb2] at hr
        exact put1_same hi (chk_ev h).2 _ (to1 hr) (.inr ⟨[_], ⟨_, plainA_cut hA _ _, rfl⟩, rfl⟩)
      · have hag : v.agg = false := by
          have : (toT (.slice u) v fun l m => cutL l bl bh fun l' => put1 o (.ro (.slice u) l') m).ev st = some p := by cases v <;> exact h
          exact toT_agg this
        obtain ⟨cs, hr, e⟩ := hv.rc (by rintro rfl; simp [toT0, Q.ev] at h)
        have hq_ := toT0_sound hi.si hi.c.wok v (.slice u) cs _ hr h
        clear h
        obtain ⟨l, m, h, hm, hrep⟩ := hq_
        obtain ⟨h1, h2, h3⟩ := cutL_ev h
        have hcl := hrep.length
        rw [hag] at e
        match cs, hcl, hrep, e with
        | [q], _, hrep, e =>
        simp only [pack, Bool.false_eq_true, if_false, List.headD_cons] at e
        obtain ⟨A, c, hA, hlc, hcut⟩ := cut_rep hrep _ _ h1 h2
        rw [hA] at e
        have hr := run A _ c e hmx (by omega) h1
        exact put1_mark hi h3 hm _ (to1 hr) (.inr ⟨[_], hcut, rfl⟩)
    | some m =>
      have hm0 := (chk_ev h).1
      replace h := (chk_ev h).2
      have hh0 := (chk_ev h).1
      replace h := (chk_ev h).2
      have hl0 := (chk_ev h).1
      replace h := (chk_ev h).2
      have hq_ := rows_sound hi hv h
      clear h
      obtain ⟨l, h, hs⟩ := hq_
      obtain ⟨A, c, hA, ex⟩ := hs.len
      subst hm0 hh0
      refine put1_same hi h (.slice A 0 0) (to1 ?_) (.inr ⟨[_], ⟨_, hA, rfl⟩, rfl⟩)
      unfold Instr.sliceAt
      simp only [Sem.run_bind, run_underlying hd, Result.andThen_ok]
      unfold Instr.slice
      simp only [Sem.run_bind, run_underlying hd, Result.andThen_ok, ex]
      have hb : (Instr.sliceBounds true l.length c (lo.map a.eval) (hi'.map a.eval) (mx.map a.eval)).run E.P C.w = .ok (0, 0, 0) C.w := by
        unfold Instr.sliceBounds
        cases hm : mx.map a.eval with
        | none => rw [hm] at hbm; exact hbm.elim
        | some vm =>
          cases hh : hi'.map a.eval with
          | none => rw [hh] at hbh; exact hbh.elim
          | some vh =>
            rw [hm] at hbm
            rw [hh] at hbh
            obtain ⟨j1, rfl⟩ := hbm
            obtain ⟨j2, rfl⟩ := hbh
            simp only [Sem.run_bind]
            rw [run_sliceBound _ 0 _ _ (Nat.zero_le _)]
            simp only [Result.andThen_ok]
            rw [run_sliceBound _ 0 _ _ (Nat.le_refl _)]
            simp only [Result.andThen_ok]
            cases hlo : lo.map a.eval with
            | none => simp
            | some vl =>
              rw [hlo] at hbl
              cases bl with
              | none => exact hbl.elim
              | some b =>
                simp at hl0
                subst hl0
                obtain ⟨j3, rfl⟩ := hbl
                simp only [Sem.run_bind]
                rw [run_sliceBound _ 0 _ _ (Nat.le_refl _)]
                simp
      rw [hb]
      simp only [Result.andThen_ok, run_sizeOf' h5, Sem.run_pure, if_true]
  | _ => rw [hty] at h; simp [Q.ev] at h
end Go.Proofs.Cdm
