/-
Calls, second part: what comes back.
-/
import Derived.Test.YtagmelohcilicaaGreatDoorCv18
namespace Go.Proofs.Cdm
open Go Go.RowKit
variable {E : Env} {O : Old} {st : St} {a : Act} {C : Ctx}

theorem nth_eq {α : Type} : ∀ (l : List α) (n : Nat), nth l n = l[n]?
  | [], n => by cases n <;> rfl
  | _ :: _, 0 => rfl
  | _ :: l, n + 1 => by simpa [nth] using nth_eq l n
theorem var_eq {t : Ty} {b : Blk} {y : t.den} (h : b.var t = some y) : b = .box t (.ro t y) := by
  cases b with
  | box u v =>
    cases v with
    | ro s x =>
      unfold Blk.var at h
      by_cases hu : u = t
      · subst hu
        simp only [decide_true, cond_true] at h
        obtain ⟨e, h⟩ := castT_some h
        subst e
        simp at h
        rw [h]
      · simp [hu] at h
    | _ => simp [Blk.var] at h
  | _ => simp [Blk.var] at h
theorem rows_eq {t : Ty} {e : TypeId} {b : Blk} {l : List t.den} (h : b.rows t e = some l) : b = .sl t e 0 true l := by
  unfold Blk.rows at h
  split at h
  · rename_i u e' l'
    cases hb : Nat.beq e e' with
    | true =>
      rw [hb] at h
      simp only [cond_true] at h
      have := Nat.eq_of_beq_eq_true hb
      subst this
      obtain ⟨e1, h⟩ := castT_some h
      injection e1 with e1
      subst e1
      simp at h
      rw [h]
    | false => rw [hb] at h; simp at h
  · cases h
theorem backs_sound {R : Type} {bs : List Blk} {r : R} : ∀ (l : List (Nat × Ty)) (n : Nat) (k : List (Nat × Blk) → Option R), backs bs n l k = some r →
    ∃ m, k m = some r ∧ m.length = l.length ∧ ∀ (j d : Nat) (t : Ty), l[j]? = some (d, t) → ∃ y, m[j]? = some (d, .box t (.ro t y)) ∧ bs[n + j]? = some (.box t (.ro t y))
  | [], n, k, h => ⟨[], h, rfl, by simp⟩
  | (d, t) :: l, n, k, h => by
    simp only [backs, Option.bind_eq_some_iff] at h
    obtain ⟨b, hb, y, hy, h⟩ := h
    obtain ⟨m, h1, h2, h3⟩ := backs_sound l (n + 1) _ h
    refine ⟨_, h1, by simp [h2], fun j d' t' hj => ?_⟩
    cases j with
    | zero =>
      simp at hj
      obtain ⟨rfl, rfl⟩ := hj
      rw [nth_eq] at hb
      exact ⟨y, rfl, by rw [Nat.add_zero, hb, var_eq hy]⟩
    | succ j =>
      obtain ⟨y', h4, h5⟩ := h3 j d' t' (by simpa using hj)
      exact ⟨y', by simpa using h4, by rw [← h5]; congr 1; omega⟩

def ImpOk (bs : List Blk) (nb base n n' : Nat) (m : List (Nat × Blk)) : Prop := n ≤ n' ∧ (∀ i, n ≤ i → i < n' → ∃ b, bs[nb + i]? = some b ∧ ∀ t v, b = Blk.box t v → ∃ x, v = .ro t x) ∧ ∀ x, look m x = if base + n ≤ x ∧ x < base + n' then bs[nb + (x - base)]? else none
theorem ImpOk.nil {bs : List Blk} {nb base n : Nat} : ImpOk bs nb base n n [] := ⟨Nat.le_refl _, fun i h1 h2 => by omega, fun x => by rw [if_neg (by omega)]; rfl⟩
theorem ImpOk.one {bs : List Blk} {nb base n : Nat} {b : Blk} (h : bs[nb + n]? = some b) (hbx : ∀ t v, b = Blk.box t v → ∃ x, v = .ro t x) : ImpOk bs nb base n (n + 1) [(base + n, b)] := by
  refine ⟨by omega, fun i h1 h2 => ⟨b, by rw [show i = n by omega]; exact h, hbx⟩, fun x => ?_⟩
  rw [look_cons, look_nil]
  by_cases hx : base + n = x
  · rw [if_pos hx, if_pos (by omega), ← hx, ← h]; congr 1; omega
  · rw [if_neg hx, if_neg (by omega)]
theorem ImpOk.append {bs : List Blk} {nb base n n' n'' : Nat} {m m' : List (Nat × Blk)} (h : ImpOk bs nb base n n' m) (k : ImpOk bs nb base n' n'' m') : ImpOk bs nb base n n'' (m ++ m') := by
  have h1 := h.1
  have k1 := k.1
  refine ⟨by omega, fun i h1 h2 => ?_, fun x => ?_⟩
  · by_cases hi : i < n'
    · exact h.2.1 i h1 hi
    · exact k.2.1 i (by omega) h2
  · rw [look_append, h.2.2, k.2.2]
    by_cases hx : base + n ≤ x ∧ x < base + n'
    · rw [if_pos hx, if_neg (by omega), if_pos (by omega), Option.or_none]
    · rw [if_neg hx, Option.none_or]
      by_cases hx2 : base + n' ≤ x ∧ x < base + n''
      · rw [if_pos hx2, if_pos (by omega)]
      · rw [if_neg hx2, if_neg (by omega)]
/-- The sites that came back have their names. -/
def Moved (C' C2 : Ctx) (nb base n n' : Nat) : Prop := C2.w = C'.w ∧ C2.RO = C'.RO ∧ ∀ i, n ≤ i → i < n' →
  look C2.si (base + i) = look C'.si (1000 + nb + i) ∧ C2.φ (base + i) = C'.φ (1000 + nb + i) ∧ C2.ν (base + i) = C'.ν (1000 + nb + i)
theorem imp_sound {R : Type} {d nb : Nat} {bs : List Blk} {r : R} : ∀ (s : Sh) (n : Nat) (v : AV) (k : AV → Nat → List (Nat × Blk) → Option R), imp d nb bs s n v k = some r →
    ∃ v' m, k v' (n + s.count) m = some r ∧ ImpOk bs nb (10000 + 100 * d) n (n + s.count) m ∧ v'.agg = v.agg ∧ v ≠ .undef ∧
      ∀ C' C2 vs, C'.si = enter.number 1000 bs → Moved C' C2 nb (10000 + 100 * d) n (n + s.count) → RC C' v vs → RC C2 v' vs := by
  intro s
  induction s with
  | ro t =>
    intro n v k h
    simp only [imp, Option.bind_eq_some_iff] at h
    obtain ⟨x, hx, h⟩ := h
    cases v with
    | ro u y =>
      obtain ⟨e, hx⟩ := castT_some hx
      subst e
      simp at hx
      subst hx
      exact ⟨_, [], h, .nil, rfl, by simp, fun C' C2 vs _ hm hv => by
        have hv : RepT C'.w C'.RO u x vs := hv
        show RepT C2.w C2.RO u x vs
        rw [hm.1, hm.2.1]; exact hv⟩
    | _ => simp [AV.prj] at hx
  | own t e =>
    intro n v k h
    simp only [imp, Option.bind_eq_some_iff] at h
    obtain ⟨_, hv, b, hb, l, hl, h⟩ := h
    rw [nth_eq] at hb
    have := rows_eq hl
    subst this
    unfold AV.isOwn at hv
    split at hv
    · rename_i d'
      cases hbq : Nat.beq d' (1000 + nb + n) with
      | false => rw [hbq] at hv; simp at hv
      | true =>
        have := Nat.eq_of_beq_eq_true hbq
        subst this
        refine ⟨_, _, h, .one hb (fun t v e => by cases e), rfl, by simp, fun C' C2 vs hsi hm hv => ?_⟩
        obtain ⟨v, h1, h2, _, h3⟩ := hv
        obtain ⟨h4, h5, h6⟩ := hm.2.2 n (Nat.le_refl _) (by simp [Sh.count])
        have h7 : look C'.si (1000 + nb + n) = some (.sl t e 0 true l) := by
          have e9 : 1000 + nb + n - 1000 = nb + n := by omega
          rw [hsi, look_number, if_pos (by omega), e9, hb]
        refine ⟨v, h1, h2, ⟨_, by rw [h4]; exact h7⟩, fun t' e' g' ex' l' hh => ?_⟩
        rw [h4] at hh
        rw [h6]
        exact h3 _ _ _ _ _ hh
    · cases hv
  | box t =>
    intro n v k h
    simp only [imp, Option.bind_eq_some_iff] at h
    obtain ⟨_, hv, b, hb, l, hl, h⟩ := h
    rw [nth_eq] at hb
    have := var_eq hl
    subst this
    unfold AV.isPtr at hv
    split at hv
    · rename_i d' u
      cases hbq : Nat.beq d' (1000 + nb + n) with
      | false => rw [hbq] at hv; simp at hv
      | true =>
        have := Nat.eq_of_beq_eq_true hbq
        subst this
        refine ⟨_, _, h, .one hb (fun t v e => by cases e; exact ⟨_, rfl⟩), rfl, by simp, fun C' C2 vs hsi hm hv => ?_⟩
        obtain ⟨v, h1, _, h3⟩ := hv
        obtain ⟨h4, h5, h6⟩ := hm.2.2 n (Nat.le_refl _) (by simp [Sh.count])
        have h7 : look C'.si (1000 + nb + n) = some (.box t (.ro t l)) := by
          have e9 : 1000 + nb + n - 1000 = nb + n := by omega
          rw [hsi, look_number, if_pos (by omega), e9, hb]
        obtain ⟨off, h8, h9⟩ := h3 _ _ h7
        refine ⟨v, h1, ⟨_, by rw [h4]; exact h7⟩, fun t' w' hh => ?_⟩
        rw [h4, h7] at hh
        injection hh with hh
        injection hh with hh _
        subst hh
        simp only [offT, Option.some.injEq, Prod.mk.injEq] at h8
        exact ⟨0, rfl, by rw [h5, h9, ← h8.1]⟩
    · cases hv
  | unit =>
    intro n v k h
    cases v with
    | unit => exact ⟨_, [], h, .nil, rfl, by simp, fun C' C2 vs _ _ hv => hv⟩
    | _ => simp [imp] at h
  | pair a b iha ihb =>
    intro n v k h
    simp only [imp, Option.bind_eq_some_iff] at h
    obtain ⟨x, hx, y, hy, h⟩ := h
    cases v with
    | pair va vb =>
      simp only [AV.fst, AV.snd, Option.some.injEq] at hx hy
      subst hx hy
      obtain ⟨v1, m1, h, i1, ag1, u1, t1⟩ := iha _ _ _ h
      obtain ⟨v2, m2, h, i2, ag2, u2, t2⟩ := ihb _ _ _ h
      rw [Nat.add_assoc] at h i2 t2
      refine ⟨_, _, h, i1.append i2, rfl, by simp, fun C' C2 vs hsi hm hv => ?_⟩
      obtain ⟨u, t, h1, h2, h3⟩ := hv
      exact ⟨u, t, h1, t1 C' C2 u hsi ⟨hm.1, hm.2.1, fun i h1 h2 => hm.2.2 i h1 (by simp only [Sh.count]; omega)⟩ h2, t2 C' C2 t hsi ⟨hm.1, hm.2.1, fun i h1 h2 => hm.2.2 i (by omega) (by simp only [Sh.count]; omega)⟩ h3⟩
    | _ => simp [AV.fst] at hx
theorem imps_sound {R : Type} {d nb : Nat} {bs : List Blk} {r : R} : ∀ (ss : List Sh) (n : Nat) (vs : List AV) (k : List AV → List (Nat × Blk) → Option R), imps d nb bs ss n vs k = some r →
    ∃ vs' m, k vs' m = some r ∧ ImpOk bs nb (10000 + 100 * d) n (n + (ss.map Sh.count).sum) m ∧
      ∀ C' C2 us, C'.si = enter.number 1000 bs → Moved C' C2 nb (10000 + 100 * d) n (n + (ss.map Sh.count).sum) → RAs C' vs us → RAs C2 vs' us
  | [], n, [], k, h => ⟨[], [], h, .nil, fun C' C2 us _ _ h => by cases us with | nil => trivial | cons => exact h.elim⟩
  | [], n, _ :: _, k, h => by simp [imps] at h
  | s :: ss, n, vs, k, h => by
    simp only [imps, Option.bind_eq_some_iff] at h
    obtain ⟨v, hv, h⟩ := h
    have hq_ := imp_sound s n v _ h
    clear h
    obtain ⟨v', m, h, i1, ag, un, t1⟩ := hq_
    have hq_ := imps_sound ss _ _ _ h
    clear h
    obtain ⟨vs', m', h, i2, t2⟩ := hq_
    have e : n + s.count + (ss.map Sh.count).sum = n + ((s :: ss).map Sh.count).sum := by simp only [List.map_cons, List.sum_cons]; omega
    rw [e] at i2 t2
    refine ⟨_, _, h, i1.append i2, fun C' C2 us hsi hm hr => ?_⟩
    cases vs with
    | nil => simp [nth] at hv
    | cons w ws =>
      simp only [nth, Option.some.injEq] at hv
      subst hv
      cases us with
      | nil => exact hr.elim
      | cons u us =>
        have i21 := i2.1
        have i11 := i1.1
        refine ⟨?_, t2 C' C2 us hsi ⟨hm.1, hm.2.1, fun i h1 h2 => hm.2.2 i (by omega) h2⟩ hr.2⟩
        obtain ⟨cs, h1, h2⟩ := hr.1.rc un
        exact .inr ⟨cs, t1 C' C2 cs hsi ⟨hm.1, hm.2.1, fun i h1 h2 => hm.2.2 i h1 (by omega)⟩ h1, by rw [ag]; exact h2⟩

/-- The caller's frame after a call. -/
theorem after (hc : CInv O C) {l : List (Nat × Ty)} (hnd : (l.map (·.1)).Nodup) {bs : List Blk} (hl : ∀ (j d : Nat) (t : Ty), l[j]? = some (d, t) → ∃ v, look C.si d = some (.box t v)) {C0 C' : Ctx} (e1 : C0.w = C.w) (e2 : C0.RO = C.RO)
    (hφ : ∀ (j d : Nat) (t : Ty), l[j]? = some (d, t) → C0.φ (1000 + j) = C.φ d) (hr : RetOk C0 l.length C') (hsi : C'.si = enter.number 1000 bs)
    {base cnt : Nat} (hb : 10000 ≤ base) (hnew : ∀ x, base ≤ x → x < base + cnt → look C.si x = none) {m m' : List (Nat × Blk)} (hml : m.length = l.length)
    (hm : ∀ (j d : Nat) (t : Ty), l[j]? = some (d, t) → ∃ y, m[j]? = some (d, .box t (.ro t y)) ∧ bs[j]? = some (.box t (.ro t y))) (hm' : ImpOk bs l.length base 0 cnt m') :
    ∃ C2, C2.w = C'.w ∧ C2.si = (m' ++ m) ++ C.si ∧ Ext C C2 ∧ CInv O C2 ∧ Moved C' C2 l.length base 0 cnt := by
  let C2 : Ctx := ⟨C'.w, C'.RO, (m' ++ m) ++ C.si, fun x => if base ≤ x ∧ x < base + cnt then C'.φ (1000 + l.length + (x - base)) else C.φ x,
    fun x => if base ≤ x ∧ x < base + cnt then C'.ν (1000 + l.length + (x - base)) else C.ν x⟩
  have lkm' : ∀ x, look m' x = if base ≤ x ∧ x < base + cnt then bs[l.length + (x - base)]? else none := by
    intro x
    rw [hm'.2.2]
    simp only [Nat.add_zero]
  have lk' : ∀ j, look C'.si (1000 + j) = bs[j]? := by
    intro j
    rw [hsi, look_number, if_pos (by omega), Nat.add_sub_cancel_left]
  -- where a site of the new frame comes from
  have mem_m : ∀ d b, look m d = some b → ∃ (j : Nat) (t : Ty) (y : t.den), l[j]? = some (d, t) ∧ b = Blk.box t (.ro t y) ∧ bs[j]? = some (Blk.box t (.ro t y)) := by
    intro d b h
    obtain ⟨j, hj⟩ := List.mem_iff_getElem?.1 (look_mem h)
    have hj1 := (List.getElem?_eq_some_iff.1 hj).1
    have hj2 : j < l.length := by omega
    obtain ⟨y, h1, h2⟩ := hm j l[j].1 l[j].2 (List.getElem?_eq_getElem hj2)
    rw [hj] at h1
    simp only [Option.some.injEq, Prod.mk.injEq] at h1
    obtain ⟨rfl, rfl⟩ := h1
    exact ⟨j, l[j].2, y, List.getElem?_eq_getElem hj2, rfl, h2⟩
  have look_m : ∀ (j d : Nat) (t : Ty), l[j]? = some (d, t) → ∃ y, look m d = some (.box t (.ro t y)) ∧ bs[j]? = some (.box t (.ro t y)) := by
    intro j d t hj
    obtain ⟨y, h1, h2⟩ := hm j d t hj
    cases h : look m d with
    | none => exact absurd rfl (look_none h _ (List.mem_of_getElem? h1))
    | some b =>
      obtain ⟨j', t', y', h3, h4, h5⟩ := mem_m d b h
      have e : j = j' := by
        have g1 : (l.map (·.1))[j]? = some d := by rw [List.getElem?_map, hj]; rfl
        have g2 : (l.map (·.1))[j']? = some d := by rw [List.getElem?_map, h3]; rfl
        have h8 := List.getElem?_eq_some_iff.1 g1
        have h9 := List.getElem?_eq_some_iff.1 g2
        rcases Nat.lt_trichotomy j j' with hjj | hjj | hjj
        · exact absurd (h8.2.trans h9.2.symm) (List.pairwise_iff_getElem.1 hnd j j' h8.1 h9.1 hjj)
        · exact hjj
        · exact absurd (h9.2.trans h8.2.symm) (List.pairwise_iff_getElem.1 hnd j' j h9.1 h8.1 hjj)
      subst e
      rw [h2] at h5
      injection h5 with h5
      exact ⟨y, by rw [h4, h5], h2⟩
  have cases2 : ∀ d b, look C2.si d = some b → (∃ i, i < cnt ∧ d = base + i ∧ bs[l.length + i]? = some b) ∨ (∃ (j : Nat) (t : Ty) (y : t.den), l[j]? = some (d, t) ∧ b = Blk.box t (.ro t y) ∧ bs[j]? = some b ∧ ¬ (base ≤ d ∧ d < base + cnt)) ∨
      (look C.si d = some b ∧ (∀ (j : Nat) (t : Ty), l[j]? ≠ some (d, t)) ∧ ¬ (base ≤ d ∧ d < base + cnt)) := by
    intro d b h
    have h : look ((m' ++ m) ++ C.si) d = some b := h
    rw [look_append, look_append, lkm'] at h
    by_cases hd : base ≤ d ∧ d < base + cnt
    · rw [if_pos hd] at h
      obtain ⟨b', hb', _⟩ := hm'.2.1 (d - base) (by omega) (by omega)
      rw [hb'] at h
      simp at h
      subst h
      exact .inl ⟨d - base, by omega, by omega, hb'⟩
    · rw [if_neg hd, Option.none_or] at h
      cases hk : look m d with
      | some b1 =>
        rw [hk] at h
        simp at h
        subst h
        obtain ⟨j, t, y, h1, h2, h3⟩ := mem_m d _ hk
        exact .inr (.inl ⟨j, t, y, h1, h2, by rw [h3, h2], hd⟩)
      | none =>
        rw [hk] at h
        simp at h
        refine .inr (.inr ⟨h, fun j t hj => ?_, hd⟩)
        obtain ⟨y, h1, _⟩ := look_m j d t hj
        rw [hk] at h1
        cases h1
  have far : ∀ d b, look C.si d = some b → ¬ (base ≤ d ∧ d < base + cnt) := by
    intro d b h hd
    rw [hnew d hd.1 hd.2] at h
    cases h
  have φ2 : ∀ d, ¬ (base ≤ d ∧ d < base + cnt) → C2.φ d = C.φ d ∧ C2.ν d = C.ν d := fun d hd => ⟨if_neg hd, if_neg hd⟩
  have φn : ∀ i, i < cnt → C2.φ (base + i) = C'.φ (1000 + l.length + i) ∧ C2.ν (base + i) = C'.ν (1000 + l.length + i) := by
    intro i hi
    have e : base + i - base = i := by omega
    constructor
    · show (if base ≤ base + i ∧ base + i < base + cnt then C'.φ (1000 + l.length + (base + i - base)) else _) = _
      rw [if_pos (by omega), e]
    · show (if base ≤ base + i ∧ base + i < base + cnt then C'.ν (1000 + l.length + (base + i - base)) else _) = _
      rw [if_pos (by omega), e]
  -- memory
  have bor : ∀ b j, j < l.length → C0.φ (1000 + j) = b → ∃ (d : Nat) (t : Ty), l[j]? = some (d, t) ∧ C.φ d = b := by
    intro b j hj he
    refine ⟨l[j].1, l[j].2, List.getElem?_eq_getElem hj, ?_⟩
    rw [← he, hφ j l[j].1 l[j].2 (List.getElem?_eq_getElem hj)]
  have same : ∀ b, b < C.w.heap.size → (∀ (j d : Nat) (t : Ty), l[j]? = some (d, t) → C.φ d ≠ b) → C'.w.heap[b]? = C.w.heap[b]? := by
    intro b hlt hne
    rw [← e1]
    refine hr.old b (by rw [e1]; exact hlt) (fun j hj he => ?_)
    obtain ⟨d, t, h1, h2⟩ := bor b j hj he
    exact hne j d t h1 h2
  have roCell : ∀ b o, C.RO b o → C'.w.heap[b]? = C.w.heap[b]? := by
    intro b o hro
    refine same b (hc.wok.ro b o hro) (fun j d t hj he => ?_)
    obtain ⟨v, hv⟩ := hl j d t hj
    obtain ⟨_, c, e, _, _, h5⟩ := hc.wok.site d _ hv
    rw [he] at h5
    exact h5 o hro
  have keep : Keep C.w C2.w C.RO C2.RO := ⟨fun b o h => hr.roOld b o (by rw [e2]; exact h), fun b o v hro hcell => by
    have : C2.w.cell? ⟨b, o, none⟩ = C.w.cell? ⟨b, o, none⟩ := cell_of_heap (roCell b o hro)
    rw [this]; exact hcell⟩
  have ext : Ext C C2 := by
    refine ⟨keep, fun d b h => ?_⟩
    have hfar := far d b h
    have e : look C2.si d = (look m d).or (look C.si d) := by
      show look ((m' ++ m) ++ C.si) d = _
      rw [look_append, look_append, lkm', if_neg hfar, Option.none_or]
    cases hk : look m d with
    | none =>
      rw [hk, h] at e
      exact ⟨b, e, fun t v' h' => ⟨⟨v', h'⟩, (φ2 d hfar).1⟩, fun t e g' ex' l' h' => ⟨g', ex', l', h', Nat.le_refl _, fun _ => ⟨(φ2 d hfar).2, rfl⟩⟩⟩
    | some b1 =>
      rw [hk] at e
      obtain ⟨j, t, y, h1, h2, _⟩ := mem_m d b1 hk
      obtain ⟨v, hv⟩ := hl j d t h1
      rw [h] at hv
      injection hv with hv
      subst h2
      refine ⟨_, e, fun t' v' h' => ?_, fun t e g' ex' l' h' => by cases h'⟩
      cases h'
      exact ⟨⟨v, hv⟩, (φ2 d hfar).1⟩
  have newBlk : ∀ i b k, i < cnt → bs[l.length + i]? = some b → blkOf C2 (base + i) b = some k → C.w.heap.size ≤ k ∧ blkOf C' (1000 + l.length + i) b = some k ∧ look C'.si (1000 + l.length + i) = some b := by
    intro i b k hi hb' hk
    obtain ⟨h1, h2⟩ := φn i hi
    have h3 : look C'.si (1000 + l.length + i) = some b := by rw [Nat.add_assoc, lk', hb']
    have h4 : blkOf C' (1000 + l.length + i) b = some k := by
      cases b with
      | box t v => simp only [blkOf] at hk ⊢; rw [← h1]; exact hk
      | sl t e g ex l => simp only [blkOf] at hk ⊢; rw [← h2]; exact hk
      | dead => exact hk
    refine ⟨?_, h4, h3⟩
    rcases hr.new _ _ _ h3 h4 with ⟨j, hj, he⟩ | h5
    · omega
    · rw [e1] at h5; exact h5
  have oldBlk : ∀ d b k, ¬ (base ≤ d ∧ d < base + cnt) → blkOf C2 d b = some k → blkOf C d b = some k := by
    intro d b k hd hk
    obtain ⟨h1, h2⟩ := φ2 d hd
    cases b with
    | box t v => simp only [blkOf] at hk ⊢; rw [← h1]; exact hk
    | sl t e g ex l => simp only [blkOf] at hk ⊢; rw [← h2]; exact hk
    | dead => exact hk
  have midBlk : ∀ (j d : Nat) (t : Ty) (y : t.den) (k : Nat), l[j]? = some (d, t) → ¬ (base ≤ d ∧ d < base + cnt) → blkOf C2 d (.box t (.ro t y)) = some k → ∃ v, look C.si d = some (.box t v) ∧ blkOf C d (.box t v) = some k := by
    intro j d t y k hj hd hk
    obtain ⟨v, hv⟩ := hl j d t hj
    exact ⟨v, hv, oldBlk d _ k hd hk⟩
  have noRO : ∀ k, k < C.w.heap.size → (∀ o, ¬ C.RO k o) → ∀ o, ¬ C'.RO k o := by
    intro k hk h o hro
    rcases hr.roNew k o hro with h1 | h1
    · rw [e2] at h1; exact h o h1
    · rw [e1] at h1; omega
  have lift : ∀ d b k, look C2.si d = some b → blkOf C2 d b = some k → (C.w.heap.size ≤ k ∧ ∃ i, i < cnt ∧ d = base + i ∧ blkOf C' (1000 + l.length + i) b = some k ∧ look C'.si (1000 + l.length + i) = some b) ∨
      (k < C.w.heap.size ∧ ∃ b', look C.si d = some b' ∧ blkOf C d b' = some k) := by
    intro d b k h hk
    rcases cases2 d b h with ⟨i, hi, rfl, hb'⟩ | ⟨j, t, y, hj, rfl, hb', hd⟩ | ⟨h1, h2, hd⟩
    · obtain ⟨h3, h4, h5⟩ := newBlk i b k hi hb' hk
      exact .inl ⟨h3, i, hi, rfl, h4, h5⟩
    · obtain ⟨v, h3, h4⟩ := midBlk j d t y k hj hd hk
      exact .inr ⟨blk_lt hc.wok h3 h4, _, h3, h4⟩
    · have := oldBlk d b k hd hk
      exact .inr ⟨blk_lt hc.wok h1 this, _, h1, this⟩
  refine ⟨C2, rfl, rfl, ext, ⟨⟨fun d b h => ?_, fun d d' b b' k h h' hk hk' => ?_, fun b o hro => hr.wok.ro b o hro⟩, ?_, ?_, ?_, ?_, fun b hlt hnb => ?_, hc.keep0.trans keep, fun b o hro => ?_, fun d b k h hk => ?_, fun j t v hj h => ?_⟩, rfl, rfl, fun i _ hi => ⟨?_, φn i hi⟩⟩
  · rcases cases2 d b h with ⟨i, hi, rfl, hb'⟩ | ⟨j, t, y, hj, rfl, hb', hd⟩ | ⟨h1, h2, hd⟩
    · have h3 : look C'.si (1000 + l.length + i) = some b := by rw [Nat.add_assoc, lk', hb']
      have hs := hr.wok.site _ _ h3
      obtain ⟨p1, p2⟩ := φn i hi
      cases b with
      | box t v =>
        obtain ⟨hf, c, e, h4, h5, h6⟩ := hs
        obtain ⟨b2, hb2, hbx⟩ := hm'.2.1 i (by omega) hi
        rw [hb'] at hb2
        injection hb2 with hb2
        obtain ⟨x, rfl⟩ := hbx t v hb2.symm
        rw [← p1] at h4 h6
        exact ⟨hf, c, e, h4, h5, h6⟩
      | sl t e g ex l =>
        obtain ⟨hz, hle, hf, vs, h4, h5, h6⟩ := hs
        exact ⟨hz, hle, hf, vs, by rw [p2]; exact h4, h5, fun b o hbo => h6 b o (by rw [← p2]; exact hbo)⟩
      | dead => trivial
    · have h3 : look C'.si (1000 + j) = some (.box t (.ro t y)) := by rw [lk', hb']
      obtain ⟨hf, c, e, h4, h5, h6⟩ := hr.wok.site _ _ h3
      have hjl := (List.getElem?_eq_some_iff.1 hj).1
      have hφ2 : C'.φ (1000 + j) = C2.φ d := by rw [hr.bor j hjl, hφ j d t hj, (φ2 d hd).1]
      rw [hφ2] at h4 h6
      exact ⟨hf, c, e, h4, h5, h6⟩
    · have hs := hc.wok.site d b h1
      obtain ⟨p1, p2⟩ := φ2 d hd
      have hne : ∀ k, blkOf C d b = some k → ∀ (j d' : Nat) (t : Ty), l[j]? = some (d', t) → C.φ d' ≠ k := by
        intro k hk j d' t hj he
        obtain ⟨v, hv⟩ := hl j d' t hj
        have := hc.wok.sep d d' b _ k h1 hv hk (by simp [blkOf, he])
        subst this
        exact h2 j t hj
      cases b with
      | box t v =>
        obtain ⟨hf, c, e, h4, h5, h6⟩ := hs
        refine ⟨hf, c, e, ?_, h5.ext ext, ?_⟩
        · rw [p1]
          show C'.w.heap[C.φ d]? = _
          rw [same _ (blk_lt hc.wok h1 rfl) (hne _ rfl)]
          exact h4
        · rw [p1]
          exact noRO _ (blk_lt hc.wok h1 rfl) h6
      | sl t e g ex l =>
        obtain ⟨hz, hle, hf, vs, h4, h5, h6⟩ := hs
        refine ⟨hz, hle, hf, vs, ?_, h5.keep keep, fun b o hbo hro => ?_⟩
        · rw [p2]
          rcases h4 with h4 | ⟨g1, cap, cur, hv, hc1, hb1, rest⟩
          · exact .inl h4
          · refine .inr ⟨g1, cap, cur, hv, hc1, ?_, rest⟩
            have hk : blkOf C d (.sl t e g ex l) = some g1 := by simp [blkOf, hv, blkV, hc1]
            show C'.w.heap[g1]? = _
            rw [same _ (blk_lt hc.wok h1 hk) (hne _ hk)]
            exact hb1
        · rw [p2] at hbo
          rcases hr.roNew b o hro with h7 | h7
          · rw [e2] at h7; exact h6 b o hbo h7
          · have := blk_lt hc.wok h1 (show blkOf C d (.sl t e g ex l) = some b from hbo)
            rw [e1] at h7
            omega
      | dead => trivial
  · rcases lift d b k h hk with ⟨h1, i, hi, rfl, h2, h3⟩ | ⟨h1, b1, h2, h3⟩ <;> rcases lift d' b' k h' hk' with ⟨h1', i', hi', rfl, h2', h3'⟩ | ⟨h1', b1', h2', h3'⟩
    · have := hr.wok.sep _ _ _ _ k h3 h3' h2 h2'
      omega
    · omega
    · omega
    · exact hc.wok.sep d d' b1 b1' k h2 h2' h3 h3'
  · show C'.w.os = _; rw [hr.os, e1]; exact hc.os
  · show C'.w.tape = _; rw [hr.tape, e1]; exact hc.tape
  · show C'.w.output = _; rw [hr.output, e1]; exact hc.output
  · show _ ≤ C'.w.heap.size; have := hr.grow; rw [e1] at this; exact Nat.le_trans hc.grow this
  · show C'.w.heap[b]? = _
    rw [same b (Nat.lt_of_lt_of_le hlt hc.grow) (fun j d t hj he => ?_)]
    · exact hc.old b hlt hnb
    · obtain ⟨v, hv⟩ := hl j d t hj
      rcases hc.mine d _ b hv (by simp [blkOf, he]) with h1 | ⟨h1, _⟩
      · omega
      · exact hnb h1
  · rcases hr.roNew b o hro with h1 | h1
    · rw [e2] at h1; exact hc.roNew b o h1
    · rw [e1] at h1; exact .inr (Nat.le_trans hc.grow h1)
  · rcases lift d b k h hk with ⟨h1, _⟩ | ⟨h1, b1, h2, h3⟩
    · exact .inl (Nat.le_trans hc.grow h1)
    · rcases hc.mine d b1 k h2 h3 with h4 | ⟨h4, h5, h6, t, v, h7⟩
      · exact .inl h4
      · refine .inr ⟨h4, h5, h6, ?_⟩
        rcases cases2 d b h with ⟨i, hi, rfl, hb'⟩ | ⟨j, t, y, hj, rfl, hb', hd⟩ | ⟨h8, _, _⟩
        · omega
        · exact ⟨_, _, rfl⟩
        · rw [h2] at h8
          injection h8 with h8
          exact ⟨t, v, by rw [← h8, h7]⟩
  · rcases cases2 _ _ h with ⟨i, hi, he, hb'⟩ | ⟨j', t', y, hj', hbx, hb', hd⟩ | ⟨h1, h2, hd⟩
    · omega
    · cases hbx
      obtain ⟨v', hv⟩ := hl j' _ _ hj'
      obtain ⟨h3, h4, h5⟩ := hc.held j t v' hj hv
      exact ⟨h3, h4, by rw [(φ2 _ hd).1]; exact h5⟩
    · obtain ⟨h3, h4, h5⟩ := hc.held j t v hj h1
      exact ⟨h3, h4, by rw [(φ2 _ hd).1]; exact h5⟩
  · obtain ⟨b, hb', _⟩ := hm'.2.1 i (by omega) hi
    show look ((m' ++ m) ++ C.si) (base + i) = _
    rw [look_append, look_append, lkm', if_pos (by omega), show base + i - base = i by omega, hb', Nat.add_assoc, lk', hb']
    rfl
end Go.Proofs.Cdm
