/-
A call's end: what is handed back.
-/
import Derived.Test.YtagmelohcilicaaGreatDoorCv24
namespace Go.Proofs.Cdm
open Go Go.RowKit
variable {E : Env} {O : Old} {st : St} {a : Act} {C : Ctx}

abbrev Xp := Option Nat × Value
def Ent (C : Ctx) (M : List (Nat × Blk)) (b : Blk) : Xp → Prop
  | (none, v) => ∃ t e A, b = .sl t e 0 true [] ∧ 0 < t.size ∧ plainA A = true ∧ v = .slice A 0 0
  | (some d, _) => (∃ t e g l, look C.si d = some (.sl t e g true l) ∧ b = .sl t e 0 true l) ∨
      (∃ t w x c e, ¬ (1000 ≤ d ∧ d < 10000) ∧ look C.si d = some (.box t w) ∧ b = .box t (.ro t x) ∧ C.w.heap[C.φ d]? = some (.cells c e (0, 0)) ∧ RepT C.w (ROm C M) t x c.toList)
structure XOk (C : Ctx) (us : List Nat) (M : List (Nat × Blk)) (bs : List Blk) (xs : List Xp) : Prop where
  valid : Valid C M
  ids : ∀ x ∈ M, x.1 ∈ us
  len : xs.length = bs.length
  nd : (xs.filterMap (·.1)).Nodup
  src : ∀ d ∈ xs.filterMap (·.1), d ∈ us ∧ ∀ x ∈ M, x.1 ≠ d
  ent : ∀ (j : Nat) (b : Blk) (x : Xp), bs[j]? = some b → xs[j]? = some x → Ent C M b x
theorem Ent.mono {C : Ctx} {M M' : List (Nat × Blk)} (h : ∀ x ∈ M, x ∈ M') {b : Blk} {x : Xp} (k : Ent C M b x) : Ent C M' b x := by
  obtain ⟨_ | d, v⟩ := x
  · exact k
  · rcases k with k | ⟨t, w, x, c, e, h1, h2, h3, h4, h5⟩
    · exact .inl k
    · exact .inr ⟨t, w, x, c, e, h1, h2, h3, h4, h5.keep (keep_mono h)⟩
theorem notin {m : List (Nat × Blk)} {us : List Nat} (h : m.all (fun y => !us.any (Nat.beq y.1)) = true) : ∀ x ∈ m, x.1 ∉ us := by
  intro x hx hu
  have h1 := List.all_eq_true.1 h x hx
  simp only [Bool.not_eq_true'] at h1
  rw [List.any_eq_false] at h1
  exact h1 _ hu (Nat.beq_refl _)
theorem notin1 {d : Nat} {us : List Nat} (h : us.any (Nat.beq d) = false) : d ∉ us := by
  intro hu
  rw [List.any_eq_false] at h
  exact h _ hu (Nat.beq_refl _)
theorem XOk.mark {us : List Nat} {M m : List (Nat × Blk)} {bs : List Blk} {xs : List Xp} (h : XOk C us M bs xs) (hm : Valid C m) (hd : ∀ x ∈ m, x.1 ∉ us) : XOk C (m.map (·.1) ++ us) (M ++ m) bs xs := by
  refine ⟨h.valid.append hm, fun x hx => ?_, h.len, h.nd, fun d hd' => ?_, fun j b x hb hx => (h.ent j b x hb hx).mono (fun z hz => by simp [hz])⟩
  · rcases List.mem_append.1 hx with hx | hx
    · exact List.mem_append.2 (.inr (h.ids x hx))
    · exact List.mem_append.2 (.inl (List.mem_map.2 ⟨x, hx, rfl⟩))
  · obtain ⟨h1, h2⟩ := h.src d hd'
    refine ⟨List.mem_append.2 (.inr h1), fun x hx => ?_⟩
    rcases List.mem_append.1 hx with hx | hx
    · exact h2 x hx
    · exact fun e => hd x hx (by rw [e]; exact h1)
theorem getElem?_snoc {α : Type} {l : List α} {a b : α} {j : Nat} (h : (l ++ [a])[j]? = some b) : (j < l.length ∧ l[j]? = some b) ∨ (j = l.length ∧ b = a) := by
  by_cases hj : j < l.length
  · rw [List.getElem?_append_left hj] at h; exact .inl ⟨hj, h⟩
  · rw [List.getElem?_append_right (by omega)] at h
    have : j - l.length = 0 := by
      cases hk : j - l.length with
      | zero => rfl
      | succ k => rw [hk] at h; simp at h
    rw [this] at h
    simp at h
    exact .inr ⟨by omega, h.symm⟩
theorem XOk.add {us : List Nat} {M : List (Nat × Blk)} {bs : List Blk} {xs : List Xp} (h : XOk C us M bs xs) {b : Blk} {v : Value} (he : Ent C M b (none, v)) : XOk C us M (bs ++ [b]) (xs ++ [(none, v)]) := by
  refine ⟨h.valid, h.ids, by simp [h.len], by simpa [List.filterMap_append] using h.nd, fun d hd => h.src d (by simpa [List.filterMap_append] using hd), fun j b' x hb hx => ?_⟩
  rcases getElem?_snoc hb with ⟨h1, h2⟩ | ⟨h1, rfl⟩
  · rcases getElem?_snoc hx with ⟨h3, h4⟩ | ⟨h3, h4⟩
    · exact h.ent j b' x h2 h4
    · have := h.len; omega
  · rcases getElem?_snoc hx with ⟨h3, h4⟩ | ⟨h3, rfl⟩
    · have := h.len; omega
    · exact he
theorem XOk.addSite {us : List Nat} {M : List (Nat × Blk)} {bs : List Blk} {xs : List Xp} (h : XOk C us M bs xs) {d : Nat} (hd : d ∉ us) {b : Blk} (he : Ent C M b (some d, undef)) : XOk C (d :: us) M (bs ++ [b]) (xs ++ [(some d, undef)]) := by
  refine ⟨h.valid, fun x hx => by simp [h.ids x hx], by simp [h.len], ?_, fun d' hd' => ?_, fun j b' x hb hx => ?_⟩
  · rw [List.filterMap_append, List.nodup_append]
    refine ⟨h.nd, by simp, fun x hx y hy => ?_⟩
    simp at hy
    subst hy
    rintro rfl
    exact hd (h.src x hx).1
  · rw [List.filterMap_append, List.mem_append] at hd'
    rcases hd' with hd' | hd'
    · obtain ⟨h1, h2⟩ := h.src d' hd'
      exact ⟨by simp [h1], h2⟩
    · simp at hd'
      subst hd'
      exact ⟨by simp, fun x hx e => hd (by rw [← e]; exact h.ids x hx)⟩
  · rcases getElem?_snoc hb with ⟨h1, h2⟩ | ⟨h1, rfl⟩
    · rcases getElem?_snoc hx with ⟨h3, h4⟩ | ⟨h3, h4⟩
      · exact h.ent j b' x h2 h4
      · have := h.len; omega
    · rcases getElem?_snoc hx with ⟨h3, h4⟩ | ⟨h3, rfl⟩
      · have := h.len; omega
      · exact he
/-- The frame that is left. -/
structure FinC (C C' : Ctx) (nb : Nat) (M : List (Nat × Blk)) (bs : List Blk) (xs : List Xp) : Prop where
  w : C'.w = C.w
  RO : ∀ b o, ROm C M b o → C'.RO b o
  si : ∀ (j : Nat) (b : Blk), bs[j]? = some b → look C'.si (1000 + nb + j) = some b
  some_ : ∀ (j d : Nat) (v : Value), xs[j]? = some (some d, v) → C'.φ (1000 + nb + j) = C.φ d ∧ C'.ν (1000 + nb + j) = C.ν d
  none_ : ∀ (j : Nat) (v : Value), xs[j]? = some (none, v) → C'.ν (1000 + nb + j) = v
theorem getElem?_prefix {α : Type} {l m : List α} {j : Nat} {a : α} (h : l[j]? = some a) : (l ++ m)[j]? = some a := by
  rw [List.getElem?_append_left (List.getElem?_eq_some_iff.1 h).1]; exact h
theorem FinC.mono {C C' : Ctx} {nb : Nat} {M M1 : List (Nat × Blk)} {bs b1 : List Blk} {xs x1 : List Xp} (h : FinC C C' nb (M ++ M1) (bs ++ b1) (xs ++ x1)) : FinC C C' nb M bs xs :=
  ⟨h.w, fun b o hr => h.RO b o (ROm.mono (fun x hx => by simp [hx]) hr), fun j b hb => h.si j b (getElem?_prefix hb), fun j d v hx => h.some_ j d v (getElem?_prefix hx), fun j v hx => h.none_ j v (getElem?_prefix hx)⟩
theorem exp_sound {α : Type} {nb : Nat} {r : α} (hi : Inv O st a C) : ∀ (s : Sh) (us : List Nat) (M : List (Nat × Blk)) (bs : List Blk) (xs : List Xp) (v : AV) (vs : List Value) (k : AV → List Nat → List Blk → Q α), XOk C us M bs xs → RC C v vs → (exp nb s us bs v k).ev st = some r →
    ∃ v' us' M1 b1 x1, (k v' us' (bs ++ b1)).ev st = some r ∧ XOk C us' (M ++ M1) (bs ++ b1) (xs ++ x1) ∧ v'.agg = v.agg ∧ ∀ C', FinC C C' nb (M ++ M1) (bs ++ b1) (xs ++ x1) → RC C' v' vs := by
  intro s
  induction s with
  | ro t =>
    intro us M bs xs v vs k hx hv h
    simp only [exp] at h
    have hag := toT_agg h
    have hq_ := toT_sound hi.si hi.c.wok v t vs _ hv h
    clear h
    obtain ⟨y, m, h, hm, hy⟩ := hq_
    have hq_ := chk_ev h
    clear h
    obtain ⟨hd, h⟩ := hq_
    refine ⟨.ro t y, _, m, [], [], by rw [List.append_nil]; exact h, by rw [List.append_nil, List.append_nil]; exact hx.mark hm (notin hd), hag.symm, fun C' hf => ?_⟩
    show RepT C'.w C'.RO t y vs
    refine RepT.keep ⟨fun b o hr => hf.RO b o (ROm.mono (fun x hx => by simp [hx]) hr), fun b o v _ hc => by rw [hf.w]; exact hc⟩ hy
  | own t e =>
    intro us M bs xs v vs k hx hv h
    simp only [exp] at h
    split at h
    · rename_i u
      have hq_ := chk_ev h
      clear h
      obtain ⟨⟨rfl, hz⟩, h⟩ := hq_
      obtain ⟨A, hA, rfl⟩ := hv
      refine ⟨_, _, [], [_], [(none, .slice A 0 0)], h, by rw [List.append_nil]; exact hx.add ⟨u, e, A, rfl, hz, hA, rfl⟩, rfl, fun C' hf => ?_⟩
      have hl := hf.si bs.length (.sl u e 0 true []) (by simp)
      have hn := hf.none_ bs.length (.slice A 0 0) (by rw [← hx.len]; simp)
      refine ⟨_, rfl, ⟨rfl, rfl⟩, ⟨_, hl⟩, fun t' e' g' ex' l' hh => ?_⟩
      exact ⟨Nat.zero_le _, fun _ => hn.symm⟩
    · rename_i d g
      simp only [Cdm.Q.ev] at h
      rcases hb : st.s d with _ | (⟨s', bv⟩ | ⟨u, e', g', _ | _, l⟩ | _) <;> rw [hb] at h <;> try (simp [Cdm.Q.ev] at h; done)
      have hq_ := chk_ev h
      clear h
      obtain ⟨⟨rfl, rfl, hu⟩, h⟩ := hq_
      have hq_ := opt_ev h
      clear h
      obtain ⟨l', hl', h⟩ := hq_
      obtain ⟨eu, hl'⟩ := castT_some hl'
      injection eu with eu
      subst eu
      simp at hl'
      have hl' : l = l' := hl'.symm
      subst hl'
      have hl : look C.si d = some (.sl u e g true l) := by rw [hi.si]; exact hb
      refine ⟨_, _, [], [_], [(some d, undef)], h, by rw [List.append_nil]; exact hx.addSite (notin1 hu) (.inl ⟨u, e, g, l, hl, rfl⟩), rfl, fun C' hf => ?_⟩
      have hl2 := hf.si bs.length (.sl u e 0 true l) (by simp)
      obtain ⟨_, hn⟩ := hf.some_ bs.length d undef (by rw [← hx.len]; simp)
      obtain ⟨v, h1, h2, _, h3⟩ := hv
      refine ⟨v, h1, h2, ⟨_, hl2⟩, fun t' e' g' ex' l' hh => ⟨Nat.zero_le _, fun _ => ?_⟩⟩
      rw [hn]
      exact (h3 _ _ _ _ _ hl).2 rfl
    · simp [Cdm.Q.ev] at h
  | box t =>
    intro us M bs xs v vs k hx hv h
    simp only [exp] at h
    split at h
    · rename_i d u'
      simp only [Cdm.Q.ev] at h
      rcases hb : st.s d with _ | (⟨s', bv⟩ | ⟨u, e', g', ex, l⟩ | _) <;> rw [hb] at h <;> try (simp [Cdm.Q.ev] at h; done)
      have hq_ := chk_ev h
      clear h
      obtain ⟨⟨rfl, hu, hr⟩, h⟩ := hq_
      have hl : look C.si d = some (.box s' bv) := by rw [hi.si]; exact hb
      obtain ⟨hf, c, e, h2, h3, h4⟩ := hi.c.wok.site d _ hl
      have hq1 := toT0_sound hi.si hi.c.wok bv s' c.toList _ h3 h
      clear h
      obtain ⟨x, m, h, hm, hrep⟩ := hq1
      have hq_ := chk_ev h
      clear h
      obtain ⟨hd, h⟩ := hq_
      have hd' := notin hd
      have h5 := hx.mark hm (fun x hx hu => hd' x hx (List.mem_cons_of_mem _ hu))
      have hdm : d ∉ m.map (·.1) ++ us := by
        intro hmem
        rcases List.mem_append.1 hmem with hmem | hmem
        · obtain ⟨y, hy, e1⟩ := List.mem_map.1 hmem
          exact hd' y hy (by rw [e1]; simp)
        · exact notin1 hu hmem
      have h6 := h5.addSite hdm (b := .box s' (.ro s' x)) (.inr ⟨s', bv, x, c, e, hr, hl, rfl, h2, hrep.keep (keep_mono (fun z hz => by simp [hz]))⟩)
      refine ⟨_, _, m, [_], [(some d, undef)], h, h6, rfl, fun C' hf => ?_⟩
      have hl2 := hf.si bs.length (.box s' (.ro s' x)) (by simp)
      obtain ⟨hn, _⟩ := hf.some_ bs.length d undef (by rw [← hx.len]; simp)
      obtain ⟨ad, h7, _, h8⟩ := hv
      obtain ⟨off, h9, h10⟩ := h8 _ _ hl
      simp only [offT, Option.some.injEq, Prod.mk.injEq] at h9
      obtain ⟨rfl, rfl⟩ := h9
      refine ⟨ad, h7, ⟨_, hl2⟩, fun t' w' hh => ?_⟩
      rw [hl2] at hh
      injection hh with hh
      injection hh with hh _
      subst hh
      exact ⟨0, rfl, by rw [hn]; exact h10⟩
    · simp [Cdm.Q.ev] at h
  | unit =>
    intro us M bs xs v vs k hx hv h
    simp only [exp] at h
    split at h
    · exact ⟨_, us, [], [], [], by rw [List.append_nil]; exact h, by rw [List.append_nil, List.append_nil, List.append_nil]; exact hx, rfl, fun C' _ => hv⟩
    · simp [Cdm.Q.ev] at h
  | pair s1 s2 ih1 ih2 =>
    intro us M bs xs v vs k hx hv h
    simp only [exp] at h
    split at h
    · rename_i x y
      obtain ⟨u, t, h1, h2, h3⟩ := hv
      obtain ⟨x', us1, M1, b1, x1, h, hx1, _, f1⟩ := ih1 _ _ _ _ _ _ _ hx h2 h
      obtain ⟨y', us2, M2, b2, x2, h, hx2, _, f2⟩ := ih2 _ _ _ _ _ _ _ hx1 h3 h
      simp only [List.append_assoc] at h hx2 f2
      refine ⟨_, us2, M1 ++ M2, b1 ++ b2, x1 ++ x2, h, hx2, rfl, fun C' hf => ⟨u, t, h1, f1 C' ?_, f2 C' hf⟩⟩
      simp only [← List.append_assoc] at hf
      exact hf.mono
    · simp [Cdm.Q.ev] at h

theorem exps_sound {α : Type} {nb : Nat} {r : α} (hi : Inv O st a C) : ∀ (l : List (Sh × AV)) (us : List Nat) (M : List (Nat × Blk)) (bs : List Blk) (xs : List Xp) (ys : List Value) (k : List AV → List Nat → List Blk → Q α), XOk C us M bs xs → RAs C (l.map (·.2)) ys → (exps nb l us bs k).ev st = some r →
    ∃ vs us' M1 b1 x1, (k vs us' (bs ++ b1)).ev st = some r ∧ XOk C us' (M ++ M1) (bs ++ b1) (xs ++ x1) ∧ ∀ C', FinC C C' nb (M ++ M1) (bs ++ b1) (xs ++ x1) → RAs C' vs ys
  | [], us, M, bs, xs, [], k, hx, _, h => ⟨[], us, [], [], [], by rw [List.append_nil]; exact h, by rw [List.append_nil, List.append_nil, List.append_nil]; exact hx, fun C' _ => trivial⟩
  | (s, v) :: l, us, M, bs, xs, y :: ys, k, hx, hr, h => by
    simp only [exps] at h
    obtain ⟨cs, h1, h2⟩ := hr.1.rc (by
      rintro e
      have e : v = .undef := e
      subst e
      cases s <;> simp [exp, toT, toT0, Cdm.Q.ev] at h
      all_goals (rename_i t; cases t <;> simp [toT, toT0, Cdm.Q.ev] at h))
    have hq1 := exp_sound hi s us M bs xs v cs _ hx h1 h
    clear h
    obtain ⟨v', us1, M1, b1, x1, h, hx1, ag, f1⟩ := hq1
    have hq1 := exps_sound hi l us1 _ _ _ ys _ hx1 hr.2 h
    clear h
    obtain ⟨vs, us2, M2, b2, x2, h, hx2, f2⟩ := hq1
    simp only [List.append_assoc] at h hx2 f2
    refine ⟨_, us2, M1 ++ M2, b1 ++ b2, x1 ++ x2, h, hx2, fun C' hf => ⟨.inr ⟨cs, f1 C' ?_, by rw [ag]; exact h2⟩, f2 C' hf⟩⟩
    simp only [← List.append_assoc] at hf
    exact hf.mono
  | [], _, _, _, _, _ :: _, _, _, h, _ => h.elim
  | _ :: _, _, _, _, _, [], _, _, h, _ => h.elim
theorem outs_sound {α : Type} {r : α} (hi : Inv O st a C) : ∀ (n : Nat) (k : List Blk → List Nat → Q α), (outs n [] k).ev st = some r →
    ∃ l us M, (k l us).ev st = some r ∧ l.length = n ∧ Valid C M ∧ (∀ x ∈ M, x.1 ∈ us) ∧ ∀ j, j < n → ∃ t w x c e, look C.si (1000 + j) = some (.box t w) ∧ l[j]? = some (.box t (.ro t x)) ∧ C.w.heap[C.φ (1000 + j)]? = some (.cells c e (0, 0)) ∧ RepT C.w (ROm C M) t x c.toList
  | 0, k, h => ⟨[], [], [], h, rfl, Valid.nil C, by simp, fun j hj => by omega⟩
  | n + 1, k, h => by
    simp only [outs] at h
    have hq1 := outs_sound hi n _ h
    clear h
    obtain ⟨l, us, M, h, h1, h2, h3, h4⟩ := hq1
    simp only [Cdm.Q.ev] at h
    rcases hb : st.s (1000 + n) with _ | (⟨s', bv⟩ | ⟨u, e', g', ex, l⟩ | _) <;> rw [hb] at h <;> try (simp [Cdm.Q.ev] at h; done)
    have hl : look C.si (1000 + n) = some (.box s' bv) := by rw [hi.si]; exact hb
    obtain ⟨hf, c, e, h5, h6, h7⟩ := hi.c.wok.site _ _ hl
    have hq1 := toT0_sound hi.si hi.c.wok bv s' c.toList _ h6 h
    clear h
    obtain ⟨x, m, h, hm, hrep⟩ := hq1
    have hq_ := chk_ev h
    clear h
    obtain ⟨hd, h⟩ := hq_
    refine ⟨_, _, M ++ m, h, by simp [h1], h2.append hm, fun x hx => ?_, fun j hj => ?_⟩
    · rcases List.mem_append.1 hx with hx | hx
      · exact List.mem_append.2 (.inr (h3 x hx))
      · exact List.mem_append.2 (.inl (List.mem_map.2 ⟨x, hx, rfl⟩))
    · by_cases hjn : j < n
      · obtain ⟨t, w, x, c, e, g1, g2, g3, g4⟩ := h4 j hjn
        exact ⟨t, w, x, c, e, g1, getElem?_prefix g2, g3, g4.keep (keep_mono (fun z hz => by simp [hz]))⟩
      · have : j = n := by omega
        subst this
        exact ⟨s', bv, x, c, e, hl, by rw [← h1]; simp, h5, hrep.keep (keep_mono (fun z hz => by simp [hz]))⟩
/-- What a result variable reads as. -/
def resRun (tmps : Array Value) : ResultVar → Sem Value
  | .tmp t => pure (tmps.getD t undef)
  | .cell a t => do loadVar t (← asAddr (tmps.getD a undef))
theorem resQ_sound {α : Type} {r : α} (hE : EnvOk E) (hi : Inv O st a C) {v : ResultVar} {k : AV → Q α} (h : (resQ E v k).ev st = some r) : ∃ w val, (k w).ev st = some r ∧ RA C w val ∧ (resRun a.tmps v).run E.P C.w = .ok val C.w := by
  have hra : ∀ t, RA C (st.t t) (a.tmps.getD t undef) := by
    intro t
    unfold St.t
    cases hl : look st.tm t with
    | none => exact .inl rfl
    | some v => exact hi.tm t v hl
  cases v with
  | tmp t => exact ⟨_, _, h, hra t, by simp [resRun]⟩
  | cell b t =>
    have hb := hra b
    simp only [resQ, Cdm.Q.ev] at h
    split at h
    · rename_i d u0 hst
      rw [hst] at hb
      have hq_ := ty_ev h
      clear h
      obtain ⟨i, hti, h⟩ := hq_
      simp only [Cdm.Q.ev] at h
      rcases hbs : st.s d with _ | (⟨u, w⟩ | ⟨u, e', g', ex, l⟩ | _) <;> rw [hbs] at h <;> try (simp [Cdm.Q.ev] at h; done)
      have hq_ := chk_ev h
      clear h
      obtain ⟨hu, h⟩ := hq_
      subst hu
      have hl : look C.si d = some (.box i.ty w) := by rw [hi.si]; exact hbs
      obtain ⟨cs, ⟨ad, rfl, _, hp⟩, e⟩ := hb.rc (by simp)
      simp only [AV.agg, pack, Bool.false_eq_true, if_false, List.headD_cons] at e
      obtain ⟨off, h1, rfl⟩ := hp _ _ hl
      simp only [offT, Option.some.injEq, Prod.mk.injEq] at h1
      obtain ⟨rfl, _⟩ := h1
      obtain ⟨hf, c, el, h2, h3, h4⟩ := hi.c.wok.site d _ hl
      have hlen := fits_length w _ _ hf h3
      have hload := (hE.T t i hti).el.load (w := C.w) (b := C.φ d) (o := 0) hlen (fun k v hk => by
        rw [cell_of_row C.w (C.φ d) (0 + k) c el (0, 0) h2, Nat.zero_add]
        simpa using hk)
      refine ⟨w, pack i.ty.isAgg c.toList, h, .inr ⟨c.toList, h3, by rw [fits_agg hf]⟩, ?_⟩
      simp only [resRun, Sem.run_bind, e, asAddr, Sem.run_pure, Result.andThen_ok, hload]
    · simp [Cdm.Q.ev] at h
theorem ress_sound {α : Type} {r : α} (hE : EnvOk E) (hi : Inv O st a C) : ∀ (l : List ResultVar) (k : List AV → Q α), (ress E l k).ev st = some r →
    ∃ (vs : List AV) (us : List Value), (k vs).ev st = some r ∧ RAs C vs us ∧ (l.mapM (resRun a.tmps)).run E.P C.w = .ok us C.w
  | [], k, h => ⟨[], [], h, trivial, by simp⟩
  | v :: l, k, h => by
    simp only [ress] at h
    have hq_ := resQ_sound hE hi h
    clear h
    obtain ⟨w, val, h, hw, hr⟩ := hq_
    have hq_ := ress_sound hE hi l _ h
    clear h
    obtain ⟨vs, us, h, hvs, hrs⟩ := hq_
    exact ⟨w :: vs, val :: us, h, ⟨hw, hvs⟩, by simp only [List.mapM_cons, Sem.run_bind, hr, hrs, Result.andThen_ok, Sem.run_pure]⟩
end Go.Proofs.Cdm
