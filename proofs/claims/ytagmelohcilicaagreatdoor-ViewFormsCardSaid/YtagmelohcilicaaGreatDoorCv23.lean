/-
Only what is named stays.
-/
import Derived.Test.YtagmelohcilicaaGreatDoorCv22
namespace Go.Proofs.Cdm
open Go Go.RowKit
variable {E : Env} {O : Old} {st : St} {a : Act} {C : Ctx}

theorem coerce_sound : ∀ (l : List (Nat × Nat × Ty × TypeId)) (st : St) (C : Ctx), Inv O st a C → ∃ C', C'.w = C.w ∧ Inv O (coerce st l) a C'
  | [], st, C, hi => ⟨C, rfl, hi⟩
  | (s, d, t, e) :: r, st, C, hi => by
    unfold coerce
    split
    · rename_i u hs hd
      cases hc : (decide (u = t) && (Nat.blt 0 t.size && Nat.blt d 1000)) with
      | false => exact coerce_sound r st C hi
      | true =>
        simp only [cond_true]
        simp only [Bool.and_eq_true, decide_eq_true_eq] at hc
        obtain ⟨rfl, hz, hd1⟩ := hc
        have hz := blt_iff.1 hz
        have hd1 := blt_iff.1 hd1
        have hv : RA C (.nils u) (a.tmps.getD s undef) := by
          unfold St.t at hs
          cases hl : look st.tm s with
          | none => rw [hl] at hs; cases hs
          | some v =>
            rw [hl] at hs
            simp only [Option.getD_some] at hs
            subst hs
            exact hi.tm s _ hl
        obtain ⟨A, hpA, hA⟩ := hv.nils
        have hdn : look C.si d = none := by rw [hi.si]; exact hd
        obtain ⟨he, hc'⟩ := site1 (d := d) (b := .sl u e 0 true []) (k := 0) (v := .slice A 0 0) hi.c hdn (by omega) (fun he => ⟨hz, by simp [LIM], by simp, [], .inl ⟨rfl, rfl, A, hpA, by simp [Ctx.with]⟩, Reps.nil, fun b o hb => by
          simp only [Ctx.with, if_true] at hb
          cases A <;> simp [blkV] at hb⟩) (fun n hn => by
          simp only [blkOf, Ctx.with, if_true] at hn
          cases A <;> simp [blkV] at hn)
        have hi' : Inv O (st.upd [(s, .own d 0)] [(d, .sl u e 0 true [])]) a (C.with d (.sl u e 0 true []) 0 (.slice A 0 0)) := by
          refine ⟨by show (d, _) :: C.si = [(d, _)] ++ st.si; rw [hi.si]; rfl, fun t v ht => ?_, hi.size, hi.defers, hc'⟩
          have ht' : look ([(s, .own d 0)] ++ st.tm) t = some v := ht
          rw [look_one] at ht'
          split at ht'
          · rename_i e1
            subst e1
            injection ht' with ht'
            subst ht'
            refine .inr ⟨[.slice A 0 0], ⟨_, rfl, ⟨rfl, rfl⟩, ⟨_, by simp [Ctx.with, look_cons]; rfl⟩, fun t e g' ex l hl => ?_⟩, by rw [hA]; rfl⟩
            simp only [Ctx.with, look_cons, if_true, Option.some.injEq, Blk.sl.injEq] at hl
            exact ⟨Nat.zero_le _, fun _ => by simp [Ctx.with]⟩
          · exact (hi.tm t v ht').ext he
        obtain ⟨C', h1, h2⟩ := coerce_sound r _ _ hi'
        exact ⟨C', h1, h2⟩
    · exact coerce_sound r st C hi

/-- A value that stays. -/
theorem keepA_undef_pair {ss : List (Nat × Nat)} {a b : AV} (h : keepA ss (.pair a b) ≠ .undef) : keepA ss a ≠ .undef ∧ keepA ss b ≠ .undef ∧ keepA ss (.pair a b) = .pair (keepA ss a) (keepA ss b) := by
  simp only [keepA] at h ⊢
  split at h
  · exact absurd rfl h
  · rename_i h1
    split at h
    · exact absurd rfl h
    · rename_i h2
      exact ⟨h1, h2, rfl⟩
def Kept (C C' : Ctx) (ss : List (Nat × Nat)) : Prop := C'.w = C.w ∧ C'.RO = C.RO ∧ C'.φ = C.φ ∧ C'.ν = C.ν ∧ ∀ d g, look ss d = some g → ∃ b, look C.si d = some b ∧ look C'.si d = some (keepB ss b) ∧ ∀ t e g' ex l, b = .sl t e g' ex l → g = g'
theorem keepA_agg {ss : List (Nat × Nat)} {v : AV} (h : keepA ss v ≠ .undef) : (keepA ss v).agg = v.agg := by
  cases v with
  | pair a b => rw [(keepA_undef_pair h).2.2]; rfl
  | own d g =>
    simp only [keepA] at h ⊢
    split at h
    · rename_i g' hl
      cases hb : Nat.beq g g' with
      | true => rfl
      | false => rw [hb] at h; exact absurd rfl h
    · exact absurd rfl h
  | ptr d p t =>
    simp only [keepA] at h ⊢
    split at h
    · rfl
    · exact absurd rfl h
  | ipt t d => simp [keepA] at h
  | pel d g i p t => simp [keepA] at h
  | _ => rfl
theorem keepA_fits {ss : List (Nat × Nat)} : ∀ {v : AV} {t : Ty}, keepA ss v ≠ .undef → fits v t = true → fits (keepA ss v) t = true := by
  intro v
  induction v with
  | pair a b iha ihb =>
    intro t h hf
    obtain ⟨h1, h2, h3⟩ := keepA_undef_pair h
    rw [h3]
    cases t with
    | cons s u =>
      simp only [fits, Bool.and_eq_true] at hf ⊢
      exact ⟨iha h1 hf.1, ihb h2 hf.2⟩
    | _ => simp [fits] at hf
  | own d g =>
    intro t h hf
    simp only [keepA] at h ⊢
    split at h
    · rename_i g' hl
      cases hb : Nat.beq g g' with
      | true => cases t <;> simp_all [fits]
      | false => rw [hb] at h; exact absurd rfl h
    · exact absurd rfl h
  | ptr d p u =>
    intro t h hf
    simp only [keepA] at h ⊢
    split at h
    · exact hf
    · exact absurd rfl h
  | ipt t d => intro t h; simp [keepA] at h
  | pel d g i p t => intro t h; simp [keepA] at h
  | fn f a b => intro t _ hf; cases t <;> simp_all [fits, keepA]
  | tup a => intro t _ hf; cases t <;> simp_all [fits, keepA]
  | _ => intro t _ hf; simpa [keepA] using hf
theorem keep_ok {C C' : Ctx} {ss : List (Nat × Nat)} (hk : Kept C C' ss) : ∀ (v : AV), (∀ vs, keepA ss v ≠ .undef → RC C v vs → RC C' (keepA ss v) vs) ∧ (∀ vs, RCm C true v vs → RCm C' true (keepC ss v) vs) := by
  obtain ⟨hw, hro, hφ, hν, hs⟩ := hk
  intro v
  induction v with
  | ro t x => exact ⟨fun vs _ h => by have h : RepT C.w C.RO t x vs := h; show RepT C'.w C'.RO t x vs; rw [hw, hro]; exact h, fun vs h => h.elim⟩
  | nils t => exact ⟨fun vs _ h => h, fun vs h => h.elim⟩
  | own d g =>
    refine ⟨fun vs hu h => ?_, fun vs h => h.elim⟩
    simp only [keepA] at hu ⊢
    split at hu
    · rename_i g' hl
      cases hb : Nat.beq g g' with
      | false => rw [hb] at hu; exact absurd rfl hu
      | true =>
        have := Nat.eq_of_beq_eq_true hb
        subst this
        simp only [cond_true]
        obtain ⟨v, h1, h2, ⟨b, h3⟩, h4⟩ := h
        obtain ⟨b', h5, h6, h7⟩ := hs d g hl
        rw [h3] at h5
        injection h5 with h5
        subst h5
        refine ⟨v, h1, h2, ⟨_, h6⟩, fun t e g1 ex l hl1 => ?_⟩
        rw [h6] at hl1
        injection hl1 with hl1
        cases b with
        | sl t0 e0 g0 ex0 l0 =>
          simp only [keepB, Blk.sl.injEq] at hl1
          obtain ⟨rfl, rfl, rfl, rfl, hll⟩ := hl1
          have e1 := h7 _ _ _ _ _ rfl
          obtain ⟨h8, h9⟩ := h4 _ _ _ _ _ h3
          exact ⟨Nat.le_refl _, fun _ => by rw [hν]; exact h9 e1⟩
        | box t0 v0 => simp only [keepB] at hl1; split at hl1 <;> cases hl1
        | dead => simp [keepB] at hl1
    · exact absurd rfl hu
  | ptr d p u =>
    refine ⟨fun vs hu h => ?_, fun vs h => h.elim⟩
    simp only [keepA] at hu ⊢
    split at hu
    · rename_i g' hl
      obtain ⟨ad, h1, ⟨b, h3⟩, h4⟩ := h
      obtain ⟨b', h5, h6, h7⟩ := hs d g' hl
      rw [h3] at h5
      injection h5 with h5
      subst h5
      refine ⟨ad, h1, ⟨_, h6⟩, fun t w hl1 => ?_⟩
      rw [h6] at hl1
      injection hl1 with hl1
      cases b with
      | box t0 v0 =>
        simp only [keepB] at hl1
        split at hl1
        · cases hl1
        · injection hl1 with e1 e2
          subst e1
          rw [hφ]
          exact h4 _ _ h3
      | sl t0 e0 g0 ex0 l0 => simp [keepB] at hl1
      | dead => simp [keepB] at hl1
    · exact absurd rfl hu
  | pel d g i p t => exact ⟨fun vs hu => by simp [keepA] at hu, fun vs h => h.elim⟩
  | rpt t x =>
    refine ⟨fun vs _ h => ?_, fun vs h => h.elim⟩
    obtain ⟨b, o, us, h1, h2, h3⟩ := h
    exact ⟨b, o, us, h1, by rw [hw, hro]; exact h2, by rw [hw, hro]; exact h3⟩
  | unit => exact ⟨fun vs _ h => h, fun vs h => h⟩
  | pair a b iha ihb =>
    refine ⟨fun vs hu h => ?_, fun vs h => ?_⟩
    · obtain ⟨h1, h2, h3⟩ := keepA_undef_pair hu
      rw [h3]
      obtain ⟨u, t, h4, h5, h6⟩ := h
      exact ⟨u, t, h4, iha.1 u h1 h5, ihb.1 t h2 h6⟩
    · simp only [keepC]
      rw [RCm_pair] at h ⊢
      obtain ⟨v, us, h1, h2, h3⟩ := h
      refine ⟨v, us, h1, ?_, ihb.2 us h3⟩
      by_cases hu : keepA ss a = .undef
      · exact .inl hu
      · obtain ⟨cs, h4, h5⟩ := h2.rc (by rintro rfl; exact hu rfl)
        exact .inr ⟨cs, iha.1 cs hu h4, by rw [keepA_agg hu]; exact h5⟩
  | tup a iha =>
    refine ⟨fun vs _ h => ?_, fun vs h => h.elim⟩
    obtain ⟨us, h1, h2⟩ := h
    exact ⟨us, h1, iha.2 us h2⟩
  | fn f a b iha ihb =>
    refine ⟨fun vs _ h => ?_, fun vs h => h.elim⟩
    obtain ⟨us, ts, h1, h2, h3⟩ := h
    exact ⟨us, ts, h1, iha.2 us h2, ihb.2 ts h3⟩
  | ipt t d => exact ⟨fun vs hu => by simp [keepA] at hu, fun vs h => h.elim⟩
  | nilp => exact ⟨fun vs _ h => h, fun vs h => h.elim⟩
  | undef => exact ⟨fun vs hu => by simp [keepA] at hu, fun vs h => h.elim⟩

theorem gens_spec (st : St) : ∀ (ss : List Nat) (d g : Nat), look (gens st ss) d = some g → ∃ b, st.s d = some b ∧ ∀ t e g' ex l, b = .sl t e g' ex l → g = g'
  | [], d, g, h => by simp [gens, look_nil] at h
  | x :: ss, d, g, h => by
    unfold gens at h
    split at h
    · rename_i t e g' ex l hs
      rw [look_cons] at h
      split at h
      · rename_i e1
        subst e1
        injection h with h
        subst h
        exact ⟨_, hs, fun t e g' ex l h => by cases h; rfl⟩
      · exact gens_spec st ss d g h
    · rename_i t v hs
      rw [look_cons] at h
      split at h
      · rename_i e1
        subst e1
        injection h with h
        subst h
        exact ⟨_, hs, fun t e g' ex l h => by cases h⟩
      · exact gens_spec st ss d g h
    · exact gens_spec st ss d g h
theorem keepS_spec (st : St) (ss : List (Nat × Nat)) : ∀ (l : List (Nat × Nat)), (∀ d g, look l d = some g → ∃ b, st.s d = some b → look (keepS st ss l) d = some (keepB ss b)) ∧ ∀ d b', look (keepS st ss l) d = some b' → ∃ b, st.s d = some b ∧ b' = keepB ss b
  | [] => ⟨fun d g h => by simp [look_nil] at h, fun d b' h => by simp [keepS, look_nil] at h⟩
  | x :: l => by
    obtain ⟨ih1, ih2⟩ := keepS_spec st ss l
    refine ⟨fun d g h => ?_, fun d b' h => ?_⟩
    · rw [look_cons] at h
      unfold keepS
      by_cases e : x.1 = d
      · subst e
        cases hs : st.s x.1 with
        | none => exact ⟨.dead, fun h => by cases h⟩
        | some b => exact ⟨b, fun _ => by simp only; rw [look_cons, if_pos rfl]⟩
      · rw [if_neg e] at h
        obtain ⟨b, hb⟩ := ih1 d g h
        refine ⟨b, fun hs => ?_⟩
        cases st.s x.1 with
        | none => exact hb hs
        | some b1 => simp only; rw [look_cons, if_neg e]; exact hb hs
    · unfold keepS at h
      cases hs : st.s x.1 with
      | none => rw [hs] at h; exact ih2 d b' h
      | some b =>
        rw [hs] at h
        simp only at h
        rw [look_cons] at h
        split at h
        · rename_i e
          subst e
          injection h with h
          exact ⟨b, hs, h.symm⟩
        · exact ih2 d b' h
theorem keepS_look (st : St) (ss : List (Nat × Nat)) : ∀ (l : List (Nat × Nat)) (d g : Nat) (b : Blk), look l d = some g → st.s d = some b → look (keepS st ss l) d = some (keepB ss b)
  | [], d, g, b, h, _ => by simp [look_nil] at h
  | x :: l, d, g, b, h, hb => by
    rw [look_cons] at h
    unfold keepS
    by_cases e : x.1 = d
    · rw [e, hb]
      simp only
      rw [look_cons, if_pos rfl]
    · rw [if_neg e] at h
      have := keepS_look st ss l d g b h hb
      cases st.s x.1 with
      | none => exact this
      | some b1 => simp only; rw [look_cons, if_neg e]; exact this
theorem look_map (f : Nat → AV) : ∀ (ts : List Nat) (t : Nat) (v : AV), look (ts.map fun t => (t, f t)) t = some v → v = f t
  | [], t, v, h => by simp [look_nil] at h
  | x :: ts, t, v, h => by
    rw [List.map_cons, look_cons] at h
    split at h
    · rename_i e
      simp only at e
      subst e
      injection h with h
      exact h.symm
    · exact look_map f ts t v h
theorem norm_sound (h : Ann) (hi : Inv O st a C) : ∃ C', C'.w = C.w ∧ Inv O (norm h st) a C' := by
  unfold norm
  cases h with
  | keep ts ss co l r =>
    simp only
    obtain ⟨C1, e1, hi1⟩ := coerce_sound co st C hi
    generalize coerce st co = st1 at hi1
    rw [← e1]
    clear hi
    let gs := gens st1 ss
    let C' : Ctx := ⟨C1.w, C1.RO, keepS st1 gs gs, C1.φ, C1.ν⟩
    have hs : ∀ d, look C1.si d = st1.s d := fun d => by rw [hi1.si]; rfl
    have kept : Kept C1 C' gs := ⟨rfl, rfl, rfl, rfl, fun d g hl => by
      obtain ⟨b, h1, h2⟩ := gens_spec st1 ss d g hl
      exact ⟨b, by rw [hs]; exact h1, keepS_look st1 gs gs d g b hl h1, h2⟩⟩
    have back : ∀ d b', look C'.si d = some b' → ∃ b, look C1.si d = some b ∧ b' = keepB gs b := fun d b' hd => by
      obtain ⟨b, h1, h2⟩ := (keepS_spec st1 gs gs).2 d b' hd
      exact ⟨b, by rw [hs]; exact h1, h2⟩
    have bk : ∀ d b k, blkOf C' d (keepB gs b) = some k → blkOf C1 d b = some k := fun d b k hk => by
      cases b with
      | box t v =>
        simp only [keepB] at hk
        split at hk
        · simp [blkOf] at hk
        · exact hk
      | sl t e g ex l => exact hk
      | dead => exact hk
    have bx : ∀ b t v, keepB gs b = .box t v → ∃ v0, b = .box t v0 ∧ v = keepA gs v0 ∧ keepA gs v0 ≠ .undef := fun b t v hb => by
      cases b with
      | box t0 v0 =>
        simp only [keepB] at hb
        split at hb
        · cases hb
        · rename_i hne
          injection hb with e1 e2
          subst e1
          exact ⟨v0, rfl, e2.symm, hne⟩
      | sl t e g ex l => simp [keepB] at hb
      | dead => simp [keepB] at hb
    refine ⟨C', rfl, rfl, fun t v ht => ?_, hi1.size, hi1.defers, ⟨⟨fun d b hd => ?_, fun d d' b b' k hd hd' hk hk' => ?_, hi1.c.wok.ro⟩, hi1.c.os, hi1.c.tape, hi1.c.output, hi1.c.grow, hi1.c.old, hi1.c.keep0, hi1.c.roNew, fun d b k hd hk => ?_, fun j t v hj hd => ?_⟩⟩
    · have hv := look_map (fun t => keepA gs (st1.t t)) ts t v ht
      subst hv
      by_cases hu : keepA gs (st1.t t) = .undef
      · exact .inl hu
      · have hr : RA C1 (st1.t t) (a.tmps.getD t undef) := by
          unfold St.t
          cases hl : look st1.tm t with
          | none => exact .inl rfl
          | some u => exact hi1.tm t u hl
        obtain ⟨cs, h1, h2⟩ := hr.rc (by intro e; rw [e] at hu; exact hu rfl)
        exact .inr ⟨cs, (keep_ok kept _).1 cs hu h1, by rw [keepA_agg hu]; exact h2⟩
    · obtain ⟨b0, h1, rfl⟩ := back d b hd
      have hso := hi1.c.wok.site d b0 h1
      cases hb : keepB gs b0 with
      | box t v =>
        obtain ⟨v0, rfl, rfl, hne⟩ := bx b0 t v hb
        obtain ⟨hf, c, e, h3, h4, h5⟩ := hso
        exact ⟨keepA_fits hne hf, c, e, h3, (keep_ok kept _).1 _ hne h4, h5⟩
      | sl t e g ex l =>
        cases b0 with
        | sl t0 e0 g0 ex0 l0 =>
          simp only [keepB, Blk.sl.injEq] at hb
          obtain ⟨rfl, rfl, rfl, rfl, hll⟩ := hb
          have hll := eq_of_heq hll
          subst hll
          exact hso
        | box t0 v0 => simp only [keepB] at hb; split at hb <;> cases hb
        | dead => simp [keepB] at hb
      | dead => trivial
    · obtain ⟨b0, h1, rfl⟩ := back d b hd
      obtain ⟨b0', h1', rfl⟩ := back d' b' hd'
      exact hi1.c.wok.sep d d' b0 b0' k h1 h1' (bk d b0 k hk) (bk d' b0' k hk')
    · obtain ⟨b0, h1, rfl⟩ := back d b hd
      rcases hi1.c.mine d b0 k h1 (bk d b0 k hk) with h2 | ⟨h2, h3, h4, t, v, rfl⟩
      · exact .inl h2
      · refine .inr ⟨h2, h3, h4, ?_⟩
        simp only [keepB] at hk ⊢
        split
        · rename_i hu
          rw [hu] at hk
          simp [blkOf] at hk
        · exact ⟨_, _, rfl⟩
    · obtain ⟨b0, h1, h2⟩ := back _ _ hd
      obtain ⟨v0, rfl, _, _⟩ := bx b0 t v h2.symm
      exact hi1.c.held j t v0 hj h1
  | leaf => exact ⟨C, rfl, hi⟩
  | node l r => exact ⟨C, rfl, hi⟩
end Go.Proofs.Cdm
