/-
Parts of data, and of the frame's values, lie where they are said to lie.
-/
import Derived.Test.YtagmelohcilicaaGreatDoorCv3
namespace Go.Proofs.Cdm
open Go

theorem blt_iff {n m : Nat} : Nat.blt n m = true ↔ n < m := by simp [Nat.blt]; omega
theorem Reps.sub {w : World} {RO : Nat → Nat → Prop} {ds : List DV} {vs : List Value} (h : Reps w RO ds vs) (a b : Nat) : Reps w RO ((ds.drop a).take b) ((vs.drop a).take b) := by
  have hl := h.1
  refine ⟨by simp [hl], fun i h1 h2 => ?_⟩
  simp only [List.length_take, List.length_drop] at h1 h2
  have := h.2 (a + i) (by omega) (by omega)
  simpa using this
theorem Reps.splice {w : World} {RO : Nat → Nat → Prop} {ds es : List DV} {vs us : List Value} (h : Reps w RO ds vs) (k : Reps w RO es us) (a b : Nat) :
    Reps w RO (ds.take a ++ es ++ ds.drop b) (vs.take a ++ us ++ vs.drop b) := by
  have h1 : Reps w RO (ds.take a) (vs.take a) := by simpa using h.sub 0 a
  have h2 : Reps w RO (ds.drop b) (vs.drop b) := by
    have := h.sub b ds.length
    rwa [List.take_of_length_le (by simp), List.take_of_length_le (by have := h.1; simp; omega)] at this
  exact (h1.append k).append h2

theorem encFlt_eq (f : Flt) : encFlt f = [.int .i64 f.op, .int .i64 f.key, .int .i64 f.lo, .int .i64 f.hi, .str f.tag, .sl f.args.length (f.args.flatMap encFlt)] := by
  cases f; simp [encFlt, encFlts_eq, Flt.op, Flt.key, Flt.lo, Flt.hi, Flt.tag, Flt.args]

theorem flatMap_part {α β : Type} (f : α → List β) (s : Nat) : ∀ (l : List α) (_ : ∀ x ∈ l, (f x).length = s) (n : Nat) (y : α), l[n]? = some y →
    ((l.flatMap f).drop (n * s)).take s = f y := by
  intro l
  induction l with
  | nil => intro _ n y h; simp at h
  | cons a l ih =>
    intro hs n y h
    have ha := hs a (by simp)
    cases n with
    | zero =>
      simp at h
      subst h
      simp [← ha]
    | succ n =>
      simp only [List.getElem?_cons_succ] at h
      rw [List.flatMap_cons, Nat.add_mul, Nat.one_mul, Nat.add_comm (n * s) s, ← List.drop_drop, List.drop_left' ha]
      exact ih (fun x hx => hs x (by simp [hx])) n y h
theorem flatMap_set {α β : Type} (f : α → List β) (s : Nat) : ∀ (l : List α) (_ : ∀ x ∈ l, (f x).length = s) (n : Nat) (y : α), n < l.length →
    (l.set n y).flatMap f = (l.flatMap f).take (n * s) ++ f y ++ (l.flatMap f).drop (n * s + s) := by
  intro l
  induction l with
  | nil => intro _ n y h; simp at h
  | cons a l ih =>
    intro hs n y h
    have ha := hs a (by simp)
    cases n with
    | zero => simp [List.drop_left' ha]
    | succ n =>
      rw [List.set_cons_succ, List.flatMap_cons, ih (fun x hx => hs x (by simp [hx])) n y (by simpa using h), List.flatMap_cons, Nat.add_mul, Nat.one_mul]
      have e1 : (f a ++ List.flatMap f l).take (n * s + s) = f a ++ (List.flatMap f l).take (n * s) := by
        rw [List.take_append, List.take_of_length_le (by omega), ha, Nat.add_sub_cancel]
      have e2 : (f a ++ List.flatMap f l).drop (n * s + s + s) = (List.flatMap f l).drop (n * s + s) := by
        rw [show n * s + s + s = s + (n * s + s) by omega, ← List.drop_drop, List.drop_left' ha]
      rw [e1, e2]
      simp
theorem take_drop_take {α : Type} (l : List α) (a b c d : Nat) (h : b + d ≤ c) : (((l.drop a).take c).drop b).take d = (l.drop (a + b)).take d := by
  rw [List.drop_take, List.drop_drop, List.take_take, Nat.min_eq_left (by omega)]

theorem offT_le : ∀ (p : List Stp) (t : Ty) (off : Nat) (u : Ty), offT p t = some (off, u) → off + u.size ≤ t.size := by
  intro p
  induction p with
  | nil => intro t off u h; simp [offT] at h; obtain ⟨rfl, rfl⟩ := h; simp
  | cons s p ih =>
    intro t off u h
    cases s with
    | l =>
      cases t with
      | cons a b =>
        simp only [offT] at h
        have := ih _ _ _ h
        simp only [Ty.size]; omega
      | _ => simp [offT] at h
    | r =>
      cases t with
      | cons a b =>
        simp only [offT, Option.map_eq_some_iff] at h
        obtain ⟨⟨o, v⟩, h, e⟩ := h
        have := ih _ _ _ h
        injection e with e1 e2
        subst e1 e2
        simp only [Ty.size]; omega
      | _ => simp [offT] at h
    | i n =>
      cases t with
      | array m t =>
        simp only [offT, Bool.cond_eq_ite] at h
        split at h
        · rename_i hnm
          simp only [Option.map_eq_some_iff] at h
          obtain ⟨⟨o, v⟩, h, e⟩ := h
          have := ih _ _ _ h
          injection e with e1 e2
          subst e1 e2
          have hlt : n < m := blt_iff.1 hnm
          have : (n + 1) * t.size ≤ m * t.size := Nat.mul_le_mul_right _ hlt
          rw [Nat.add_mul] at this
          simp only [Ty.size]; omega
        · simp at h
      | _ => simp [offT] at h
    | f j =>
      cases t with
      | flt =>
        cases p with
        | nil =>
          match j with
          | 0 | 1 | 2 | 3 | 4 | 5 => simp [offT] at h; obtain ⟨rfl, rfl⟩ := h; simp [Ty.size]
          | j + 6 => simp [offT] at h
        | cons => simp [offT] at h
      | _ => simp [offT] at h

theorem castT_some {u t : Ty} {y : u.den} {z : t.den} (h : castT u t y = some z) : ∃ e : u = t, z = e ▸ y := by
  unfold castT at h
  split at h
  · rename_i e
    exact ⟨e, by injection h with h; exact h.symm⟩
  · simp at h
theorem castT_self {t : Ty} {y z : t.den} (h : castT t t y = some z) : z = y := by
  obtain ⟨e, hz⟩ := castT_some h
  simpa using hz

theorem getT_part {α : Type} {st : St} {r : α} : ∀ (p : List Stp) (t : Ty) (x : t.den) (k : (t : Ty) → t.den → Q α), wft t x → (getT p t x k).ev st = some r →
    ∃ off u y, offT p t = some (off, u) ∧ (k u y).ev st = some r ∧ wft u y ∧ enc u y = ((enc t x).drop off).take u.size := by
  intro p
  induction p with
  | nil =>
    intro t x k hw h
    exact ⟨0, t, x, rfl, by simpa [getT] using h, hw, by rw [List.drop_zero, List.take_of_length_le (by rw [length_enc t x hw]; exact Nat.le_refl _)]⟩
  | cons s p ih =>
    intro t x k hw h
    cases s with
    | l =>
      cases t with
      | cons a b =>
        simp only [getT] at h
        obtain ⟨off, u, y, h1, h2, h3, h4⟩ := ih _ _ _ hw.1 h
        refine ⟨off, u, y, by simpa [offT] using h1, h2, h3, ?_⟩
        have := offT_le _ _ _ _ h1
        simp only [enc]
        rw [h4, List.drop_append_of_le_length (by rw [length_enc a _ hw.1]; omega), List.take_append_of_le_length (by rw [List.length_drop, length_enc a _ hw.1]; omega)]
      | _ => simp [getT, Q.ev] at h
    | r =>
      cases t with
      | cons a b =>
        simp only [getT] at h
        obtain ⟨off, u, y, h1, h2, h3, h4⟩ := ih _ _ _ hw.2 h
        refine ⟨a.size + off, u, y, by simp [offT, h1], h2, h3, ?_⟩
        simp only [enc]
        rw [h4, ← List.drop_drop, List.drop_left' (length_enc a _ hw.1)]
      | _ => simp [getT, Q.ev] at h
    | i n =>
      cases t with
      | array m t =>
        simp only [getT, Q.ev, Option.bind_eq_some_iff] at h
        obtain ⟨y0, hy, h⟩ := h
        have hwy : wft t y0 := hw.2 _ (List.mem_of_getElem? hy)
        obtain ⟨off, u, y, h1, h2, h3, h4⟩ := ih _ _ _ hwy h
        have hlt : n < m := by
          have := (List.getElem?_eq_some_iff.1 hy).1
          have := hw.1
          omega
        refine ⟨n * t.size + off, u, y, by simp [offT, h1, blt_iff.2 hlt], h2, h3, ?_⟩
        simp only [enc]
        have := offT_le _ _ _ _ h1
        rw [h4, ← take_drop_take _ _ _ t.size _ (by omega), flatMap_part (enc t) t.size x (fun z hz => length_enc t z (hw.2 z hz)) n y0 hy]
      | _ => simp [getT, Q.ev] at h
    | f j =>
      cases t with
      | flt =>
        cases p with
        | nil =>
          match j with
          | 0 => simp only [getT] at h; exact ⟨0, _, x.op, rfl, h, trivial, by simp only [enc]; rw [encFlt_eq]; rfl⟩
          | 1 => simp only [getT] at h; exact ⟨1, _, x.key, rfl, h, trivial, by simp only [enc]; rw [encFlt_eq]; rfl⟩
          | 2 => simp only [getT] at h; exact ⟨2, _, x.lo, rfl, h, trivial, by simp only [enc]; rw [encFlt_eq]; rfl⟩
          | 3 => simp only [getT] at h; exact ⟨3, _, x.hi, rfl, h, trivial, by simp only [enc]; rw [encFlt_eq]; rfl⟩
          | 4 => simp only [getT] at h; exact ⟨4, _, x.tag, rfl, h, trivial, by simp only [enc]; rw [encFlt_eq]; rfl⟩
          | 5 => simp only [getT] at h; exact ⟨5, _, x.args, rfl, h, fun _ _ => trivial, by simp only [enc]; rw [encFlt_eq]; rfl⟩
          | j + 6 => simp [getT, Q.ev] at h
        | cons => simp [getT, Q.ev] at h
      | _ => simp [getT, Q.ev] at h

theorem splice_left {α : Type} (u us t : List α) (o s : Nat) (h : o + s ≤ u.length) : (u ++ t).take o ++ us ++ (u ++ t).drop (o + s) = (u.take o ++ us ++ u.drop (o + s)) ++ t := by
  rw [List.take_append_of_le_length (by omega), List.drop_append_of_le_length (by omega)]
  simp
theorem splice_right {α : Type} (u us t : List α) (n o s : Nat) (h : u.length = n) : (u ++ t).take (n + o) ++ us ++ (u ++ t).drop (n + o + s) = u ++ (t.take o ++ us ++ t.drop (o + s)) := by
  subst h
  have e1 : (u ++ t).take (u.length + o) = u ++ t.take o := by
    rw [List.take_append, List.take_of_length_le (by omega), Nat.add_sub_cancel_left]
  have e2 : (u ++ t).drop (u.length + o + s) = t.drop (o + s) := by
    rw [Nat.add_assoc, ← List.drop_drop, List.drop_left' rfl]
  rw [e1, e2]
  simp
theorem setT_part {α : Type} {st : St} {r : α} (u : Ty) (y : u.den) (hy : wft u y) : ∀ (p : List Stp) (t : Ty) (x : t.den) (k : t.den → Q α), wft t x → (setT p t x u y k).ev st = some r →
    ∃ off z, offT p t = some (off, u) ∧ (k z).ev st = some r ∧ wft t z ∧ enc t z = (enc t x).take off ++ enc u y ++ (enc t x).drop (off + u.size) := by
  intro p
  induction p with
  | nil =>
    intro t x k hw h
    simp only [setT, Q.ev, Option.bind_eq_some_iff] at h
    obtain ⟨z, hz, h⟩ := h
    obtain ⟨e, hz⟩ := castT_some hz
    subst e
    simp at hz
    subst hz
    refine ⟨0, z, rfl, h, hy, ?_⟩
    rw [List.take_zero, List.drop_of_length_le (by rw [length_enc u x hw]; omega)]
    simp
  | cons s p ih =>
    intro t x k hw h
    cases s with
    | l =>
      cases t with
      | cons a b =>
        simp only [setT] at h
        obtain ⟨off, z, h1, h2, h3, h4⟩ := ih _ _ _ hw.1 h
        refine ⟨off, _, by simpa [offT] using h1, h2, ⟨h3, hw.2⟩, ?_⟩
        have := offT_le _ _ _ _ h1
        simp only [enc]
        rw [h4, List.take_append_of_le_length (by rw [length_enc a _ hw.1]; omega), List.drop_append_of_le_length (by rw [length_enc a _ hw.1]; omega)]
        simp
      | _ => simp [setT, Q.ev] at h
    | r =>
      cases t with
      | cons a b =>
        simp only [setT] at h
        obtain ⟨off, z, h1, h2, h3, h4⟩ := ih _ _ _ hw.2 h
        refine ⟨a.size + off, _, by simp [offT, h1], h2, ⟨hw.1, h3⟩, ?_⟩
        simp only [enc]
        have hl := length_enc a _ hw.1
        rw [splice_right _ _ _ _ _ _ hl, h4]
      | _ => simp [setT, Q.ev] at h
    | i n =>
      cases t with
      | array m t =>
        simp only [setT, Q.ev, Option.bind_eq_some_iff] at h
        obtain ⟨y0, hy0, h⟩ := h
        have hwy : wft t y0 := hw.2 _ (List.mem_of_getElem? hy0)
        obtain ⟨off, z, h1, h2, h3, h4⟩ := ih _ _ _ hwy h
        have hlt0 := (List.getElem?_eq_some_iff.1 hy0).1
        have hlt : n < m := by
          have := hw.1
          omega
        have hlen : ∀ z ∈ x, (enc t z).length = t.size := fun z hz => length_enc t z (hw.2 z hz)
        refine ⟨n * t.size + off, _, by simp [offT, h1, blt_iff.2 hlt], h2, ⟨by rw [List.length_set]; exact hw.1, fun q hq => ?_⟩, ?_⟩
        · rcases List.mem_or_eq_of_mem_set hq with hq | hq
          · exact hw.2 q hq
          · rw [hq]; exact h3
        · simp only [enc]
          have hle := offT_le _ _ _ _ h1
          have hp := flatMap_part (enc t) t.size x hlen n y0 hy0
          rw [flatMap_set (enc t) t.size x hlen n z hlt0, h4, ← hp]
          have e1 : (List.flatMap (enc t) x).take (n * t.size + off) = (List.flatMap (enc t) x).take (n * t.size) ++ (((List.flatMap (enc t) x).drop (n * t.size)).take t.size).take off := by
            rw [List.take_take, Nat.min_eq_left (by omega), ← List.take_add]
          have e2 : (List.flatMap (enc t) x).drop (n * t.size + off + u.size) = (((List.flatMap (enc t) x).drop (n * t.size)).take t.size).drop (off + u.size) ++ (List.flatMap (enc t) x).drop (n * t.size + t.size) := by
            rw [List.drop_take, List.drop_drop]
            conv => lhs; rw [← List.take_append_drop (t.size - (off + u.size)) ((List.flatMap (enc t) x).drop (n * t.size + off + u.size))]
            rw [List.drop_drop]
            congr 2
            · congr 1; omega
            · omega
          rw [e1, e2]
          simp
      | _ => simp [setT, Q.ev] at h
    | f j =>
      cases t with
      | flt =>
        cases p with
        | nil =>
          match j with
          | 0 | 1 | 2 | 3 | 4 | 5 =>
            simp only [setT, Q.ev, Option.bind_eq_some_iff] at h
            obtain ⟨z, hz, h⟩ := h
            obtain ⟨e, hz⟩ := castT_some hz
            subst e
            simp at hz
            subst hz
            first
              | exact ⟨0, _, rfl, h, trivial, by simp only [enc]; rw [encFlt_eq, encFlt_eq]; rfl⟩
              | exact ⟨1, _, rfl, h, trivial, by simp only [enc]; rw [encFlt_eq, encFlt_eq]; rfl⟩
              | exact ⟨2, _, rfl, h, trivial, by simp only [enc]; rw [encFlt_eq, encFlt_eq]; rfl⟩
              | exact ⟨3, _, rfl, h, trivial, by simp only [enc]; rw [encFlt_eq, encFlt_eq]; rfl⟩
              | exact ⟨4, _, rfl, h, trivial, by simp only [enc]; rw [encFlt_eq, encFlt_eq]; rfl⟩
              | exact ⟨5, _, rfl, h, trivial, by simp only [enc]; rw [encFlt_eq, encFlt_eq]; rfl⟩
          | j + 6 => simp [setT, Q.ev] at h
        | cons => simp [setT, Q.ev] at h
      | _ => simp [setT, Q.ev] at h

/-! ### The frame's values -/
theorem fits_agg {v : AV} {t : Ty} (h : fits v t = true) : v.agg = t.isAgg := by
  cases v <;> cases t <;> simp_all [fits, AV.agg, Ty.isAgg] <;> (subst h; rfl)
theorem fits_length {C : Ctx} : ∀ (v : AV) (t : Ty) (vs : List Value), fits v t = true → RC C v vs → vs.length = t.size := by
  intro v
  induction v with
  | ro u x => intro t vs h hv; simp [fits] at h; subst h; exact hv.length
  | pair a b iha ihb =>
    intro t vs h hv
    cases t <;> simp [fits] at h
    obtain ⟨u, s, rfl, h1, h2⟩ := hv
    simp [Ty.size, iha _ _ h.1 h1, ihb _ _ h.2 h2]
  | nils u =>
    intro t vs h hv
    cases t <;> simp [fits] at h
    obtain ⟨a, _, rfl⟩ := hv
    rfl
  | own d g =>
    intro t vs h hv
    cases t <;> simp [fits] at h
    obtain ⟨a, rfl, _⟩ := hv
    rfl
  | ptr d g u =>
    intro t vs h hv
    cases t <;> simp [fits] at h
    obtain ⟨a, rfl, _⟩ := hv
    rfl
  | pel d g i p u =>
    intro t vs h hv
    cases t <;> simp [fits] at h
    obtain ⟨a, rfl, _⟩ := hv
    rfl
  | rpt u x =>
    intro t vs h hv
    cases t <;> simp [fits] at h
    obtain ⟨a, o, us, rfl, _⟩ := hv
    rfl
  | fn f a b =>
    intro t vs h hv
    cases t <;> simp [fits] at h
    obtain ⟨us, ts, rfl, _⟩ := hv
    rfl
  | ipt u d =>
    intro t vs h hv
    cases t <;> simp [fits] at h
    obtain ⟨a, rfl, _⟩ := hv
    rfl
  | nilp =>
    intro t vs h hv
    cases t <;> simp [fits] at h
    obtain ⟨a, rfl, _⟩ := hv
    rfl
  | undef => intro t vs h; cases t <;> simp [fits] at h
  | unit =>
    intro t vs h hv
    cases t <;> simp [fits] at h
    have hv : vs = [] := hv
    subst hv
    rfl
  | tup a => intro t vs h; cases t <;> simp [fits] at h
theorem RepT.one {w : World} {RO : Nat → Nat → Prop} {t : Ty} {x : t.den} {vs : List Value} (h : RepT w RO t x vs) : ∀ v ∈ vs, v.cells = #[v] ∧ v.oneCell' = true := by
  intro v hv
  obtain ⟨i, hi, rfl⟩ := List.mem_iff_getElem.1 hv
  exact (h.2.2 i (by have := h.2.1; omega) hi).one
theorem fits_one {C : Ctx} : ∀ (v : AV) (t : Ty) (vs : List Value), fits v t = true → RC C v vs → ∀ c ∈ vs, c.cells = #[c] ∧ c.oneCell' = true := by
  intro v
  induction v with
  | ro u x => intro t vs h hv; exact RepT.one hv
  | pair a b iha ihb =>
    intro t vs h hv
    cases t <;> simp [fits] at h
    obtain ⟨u, s, rfl, h1, h2⟩ := hv
    intro c hc
    rcases List.mem_append.1 hc with hc | hc
    · exact iha _ _ h.1 h1 c hc
    · exact ihb _ _ h.2 h2 c hc
  | nils u =>
    intro t vs h hv
    obtain ⟨a, _, rfl⟩ := hv
    simp [Value.cells, Value.oneCell']
  | own d g =>
    intro t vs h hv
    obtain ⟨a, rfl, h1, _⟩ := hv
    simpa using h1
  | ptr d g u =>
    intro t vs h hv
    obtain ⟨a, rfl, _⟩ := hv
    simp [Value.cells, Value.oneCell']
  | pel d g i p u =>
    intro t vs h hv
    obtain ⟨a, rfl, _⟩ := hv
    simp [Value.cells, Value.oneCell']
  | rpt u x =>
    intro t vs h hv
    obtain ⟨a, o, us, rfl, _⟩ := hv
    simp [Value.cells, Value.oneCell']
  | fn f a b =>
    intro t vs h hv
    obtain ⟨us, ts, rfl, _⟩ := hv
    simp [Value.cells, Value.oneCell']
  | ipt u d =>
    intro t vs h hv
    obtain ⟨a, rfl, _⟩ := hv
    simp [Value.cells, Value.oneCell']
  | nilp =>
    intro t vs h hv
    obtain ⟨a, rfl, h1⟩ := hv
    simpa using h1
  | undef => intro t vs h hv; exact hv.elim
  | unit =>
    intro t vs h hv
    have hv : vs = [] := hv
    subst hv
    simp
  | tup a => intro t vs h; cases t <;> simp [fits] at h

theorem getA_part {α : Type} {st : St} {r : α} {C : Ctx} : ∀ (p : List Stp) (v : AV) (t : Ty) (vs : List Value) (k : AV → Q α), fits v t = true → RC C v vs → (getA p v k).ev st = some r →
    ∃ off u w, offT p t = some (off, u) ∧ (k w).ev st = some r ∧ fits w u = true ∧ RC C w ((vs.drop off).take u.size) := by
  intro p
  induction p with
  | nil =>
    intro v t vs k hf hv h
    refine ⟨0, t, v, rfl, by simpa [getA] using h, hf, ?_⟩
    rw [List.drop_zero, List.take_of_length_le (by rw [fits_length v t vs hf hv]; exact Nat.le_refl _)]
    exact hv
  | cons s p ih =>
    intro v t vs k hf hv h
    by_cases hro : ∃ u x, v = .ro u x
    · obtain ⟨u, x, rfl⟩ := hro
      simp [fits] at hf
      subst hf
      have h' : (getT (s :: p) u x fun a y => k (.ro a y)).ev st = some r := h
      obtain ⟨off, b, y, h1, h2, h3, h4⟩ := getT_part _ _ _ _ hv.1 h'
      exact ⟨off, b, .ro b y, h1, h2, by simp [fits], ⟨h3, by rw [h4]; exact hv.2.sub off b.size⟩⟩
    · cases v with
      | ro u x => exact absurd ⟨u, x, rfl⟩ hro
      | pair a b =>
        cases t <;> simp [fits] at hf
        rename_i ta tb
        obtain ⟨us, ts, rfl, h1, h2⟩ := hv
        have hl := fits_length a ta us hf.1 h1
        cases s with
        | l =>
          obtain ⟨off, u, w, h3, h4, h5, h6⟩ := ih a ta us k hf.1 h1 h
          refine ⟨off, u, w, by simpa [offT] using h3, h4, h5, ?_⟩
          have := offT_le _ _ _ _ h3
          rw [List.drop_append_of_le_length (by omega), List.take_append_of_le_length (by rw [List.length_drop]; omega)]
          exact h6
        | r =>
          obtain ⟨off, u, w, h3, h4, h5, h6⟩ := ih b tb ts k hf.2 h2 h
          refine ⟨ta.size + off, u, w, by simp [offT, h3], h4, h5, ?_⟩
          rw [← List.drop_drop, List.drop_left' hl]
          exact h6
        | i n => simp [getA, Q.ev] at h
        | f j => simp [getA, Q.ev] at h
      | _ => cases s <;> simp [getA, Q.ev] at h

theorem setA_ro {α : Type} (s : Stp) (p : List Stp) (t t' : Ty) (x : t.den) (y : t'.den) (k : AV → Q α) (h : ¬ (s = .l ∧ ∃ a b, t = .cons a b)) (h' : ¬ (s = .r ∧ ∃ a b, t = .cons a b)) :
    setA (s :: p) (.ro t x) (.ro t' y) k = setT (s :: p) t x t' y fun z => k (.ro t z) := by
  cases s with
  | l => cases t <;> first | rfl | exact absurd ⟨rfl, _, _, rfl⟩ h
  | r => cases t <;> first | rfl | exact absurd ⟨rfl, _, _, rfl⟩ h'
  | i n => rfl
  | f j => rfl
theorem setA_part {α : Type} {st : St} {r : α} {C : Ctx} (nw : AV) (us : List Value) (tn : Ty) (hn : fits nw tn = true) (hus : RC C nw us) :
    ∀ (p : List Stp) (v : AV) (t : Ty) (vs : List Value) (k : AV → Q α) (off : Nat), fits v t = true → RC C v vs → offT p t = some (off, tn) → (setA p v nw k).ev st = some r →
    ∃ v', (k v').ev st = some r ∧ fits v' t = true ∧ RC C v' (vs.take off ++ us ++ vs.drop (off + tn.size)) := by
  intro p
  induction p with
  | nil =>
    intro v t vs k off hf hv ho h
    simp only [offT, Option.some.injEq, Prod.mk.injEq] at ho
    obtain ⟨rfl, rfl⟩ := ho
    refine ⟨nw, by simpa [setA] using h, hn, ?_⟩
    rw [List.take_zero, List.drop_of_length_le (by rw [fits_length v _ vs hf hv]; omega)]
    simpa using hus
  | cons s p ih =>
    intro v t vs k off hf hv ho h
    have two : ∀ (a b : AV) (ta tb : Ty) (ua ub : List Value), t = .cons ta tb → vs = ua ++ ub → fits a ta = true → fits b tb = true → RC C a ua → RC C b ub →
        ((s = .l ∧ (setA p a nw fun a' => k (.pair a' b)).ev st = some r) ∨ (s = .r ∧ (setA p b nw fun b' => k (.pair a b')).ev st = some r)) →
        ∃ v', (k v').ev st = some r ∧ fits v' t = true ∧ RC C v' (vs.take off ++ us ++ vs.drop (off + tn.size)) := by
      rintro a b ta tb ua ub rfl rfl fa fb ra rb (⟨rfl, hh⟩ | ⟨rfl, hh⟩)
      · have ho' : offT p ta = some (off, tn) := by simpa [offT] using ho
        obtain ⟨v', h1, h2, h3⟩ := ih a ta ua _ off fa ra ho' hh
        refine ⟨_, h1, by simp [fits, h2, fb], ?_⟩
        have := offT_le _ _ _ _ ho'
        rw [splice_left _ _ _ _ _ (by rw [fits_length a ta ua fa ra]; omega)]
        exact ⟨_, _, rfl, h3, rb⟩
      · simp only [offT, Option.map_eq_some_iff, Prod.mk.injEq] at ho
        obtain ⟨⟨o, q⟩, ho', e1, e2⟩ := ho
        simp only at e1 e2
        subst e1 e2
        obtain ⟨v', h1, h2, h3⟩ := ih b tb ub _ o fb rb ho' hh
        refine ⟨_, h1, by simp [fits, h2, fa], ?_⟩
        rw [splice_right _ _ _ _ _ _ (fits_length a ta ua fa ra)]
        exact ⟨_, _, rfl, ra, h3⟩
    cases v with
    | ro u x =>
      simp [fits] at hf
      subst hf
      by_cases hc : ∃ a b, u = .cons a b
      · obtain ⟨a, b, rfl⟩ := hc
        have hw := hv.1
        obtain ⟨ua, ub, e, r1, r2⟩ := Reps.split hv.2
        cases s with
        | l => exact two (.ro a x.1) (.ro b x.2) a b ua ub rfl e (by simp [fits]) (by simp [fits]) ⟨hw.1, r1⟩ ⟨hw.2, r2⟩ (.inl ⟨rfl, h⟩)
        | r => exact two (.ro a x.1) (.ro b x.2) a b ua ub rfl e (by simp [fits]) (by simp [fits]) ⟨hw.1, r1⟩ ⟨hw.2, r2⟩ (.inr ⟨rfl, h⟩)
        | i n => simp [offT] at ho
        | f j => simp [offT] at ho
      · have hro : ∃ t' y, nw = .ro t' y := by
          cases nw with
          | ro t' y => exact ⟨t', y, rfl⟩
          | _ =>
            exfalso
            cases s <;> cases u <;> first | (simp [setA, Q.ev] at h; done) | exact absurd ⟨_, _, rfl⟩ hc
        obtain ⟨t', y, rfl⟩ := hro
        rw [setA_ro _ _ _ _ _ _ _ (fun e => hc e.2) (fun e => hc e.2)] at h
        simp [fits] at hn
        subst hn
        obtain ⟨off', z, h1, h2, h3, h4⟩ := setT_part t' y hus.1 _ _ _ _ hv.1 h
        rw [ho] at h1
        simp only [Option.some.injEq, Prod.mk.injEq, and_true] at h1
        subst h1
        exact ⟨.ro u z, h2, by simp [fits], ⟨h3, by rw [h4]; exact hv.2.splice hus.2 _ _⟩⟩
    | pair a b =>
      cases t <;> simp [fits] at hf
      rename_i ta tb
      obtain ⟨ua, ub, e, h1, h2⟩ := hv
      cases s with
      | l => exact two a b ta tb ua ub rfl e hf.1 hf.2 h1 h2 (.inl ⟨rfl, h⟩)
      | r => exact two a b ta tb ua ub rfl e hf.1 hf.2 h1 h2 (.inr ⟨rfl, h⟩)
      | i n => simp [offT] at ho
      | f j => simp [offT] at ho
    | _ => cases s <;> simp [setA, Q.ev] at h
end Go.Proofs.Cdm
