/-
Operations, sixth part: what is built.
-/
import Derived.Test.YtagmelohcilicaaGreatDoorCv12
import Derived.Great.FillDense
namespace Go.Proofs.Cdm
open Go Go.RowKit
variable {E : Env} {O : Old} {st : St} {a : Act} {C : Ctx}

theorem Ext.mark_mono {C : Ctx} {m n : List (Nat × Blk)} (hm : Valid C m) (hn : Valid C n) : Ext (C.mk' m) (C.mk' (m ++ n)) := by
  have hmn := hm.append hn
  refine ⟨keep_mono (C := C) (m := m) (n := m ++ n) (fun x hx => by simp [hx]), fun d b hb => ?_⟩
  have hb0 : look (m ++ C.si) d = some b := hb
  have lk : look ((m ++ n) ++ C.si) d = (look m d).or ((look n d).or (look C.si d)) := by rw [look_append, look_append, Option.or_assoc]
  rw [look_append] at hb0
  cases hmd : look m d with
  | some b1 =>
    rw [hmd] at hb0 lk
    have hb1 : b1 = b := by simpa using hb0
    subst hb1
    exact ⟨b1, by show look ((m ++ n) ++ C.si) d = _; rw [lk]; rfl, fun t v' h' => ⟨⟨v', h'⟩, rfl⟩, fun t e g' ex' l' h' => ⟨g', ex', l', h', Nat.le_refl _, fun _ => ⟨rfl, rfl⟩⟩⟩
  | none =>
    rw [hmd] at hb0 lk
    have hb0 : look C.si d = some b := by simpa using hb0
    cases hnd : look n d with
    | none =>
      rw [hnd, hb0] at lk
      exact ⟨b, by show look ((m ++ n) ++ C.si) d = _; rw [lk]; rfl, fun t v' h' => ⟨⟨v', h'⟩, rfl⟩, fun t e g' ex' l' h' => ⟨g', ex', l', h', Nat.le_refl _, fun _ => ⟨rfl, rfl⟩⟩⟩
    | some b1 =>
      rw [hnd] at lk
      refine ⟨b1, by show look ((m ++ n) ++ C.si) d = _; rw [lk]; rfl, fun t v' h' => ?_, fun t e g' ex' l' h' => ?_⟩
      · subst h'
        rcases hn _ (look_mem hnd) with ⟨_, _, _, _, _, h1, _⟩ | ⟨_, _, h1, _⟩ <;> cases h1
      · subst h'
        rcases hn _ (look_mem hnd) with ⟨t1, e1, g1, ex1, l1, h1, h2⟩ | ⟨_, _, h1, _⟩
        · cases h1
          simp only at h2
          rw [hb0] at h2
          injection h2 with h2
          exact ⟨g', ex1, l', h2, Nat.le_refl _, fun _ => ⟨rfl, rfl⟩⟩
        · cases h1

theorem fill_step (place : Nat → Option (Nat × Nat)) (cs : Array Value) (i off : Nat) (v : Value) (us : List Value) (r : List (Nat × Value)) (hp : place i = some (off, us.length)) (hv : v.cells = us.toArray) (ho : off + us.length ≤ cs.size) :
    Instr.fill place cs ((i, v) :: r) = Instr.fill place (cs.toList.take off ++ us ++ cs.toList.drop (off + us.length)).toArray r := by
  simp only [Instr.fill, hp, hv]
  rw [if_neg (by simp; omega)]
  congr 1
  have h := Go.Great.foldl_set off us 0 cs
  apply Array.ext'
  apply List.ext_getElem?
  intro k
  rw [Array.getElem?_toList]
  have e1 : (us.toArray.zipIdx.foldl (fun cs (x : Value × Nat) => cs.setIfInBounds (off + x.2) x.1) cs) = ((us.zipIdx 0).foldl (fun cs (x : Value × Nat) => cs.setIfInBounds (off + x.2) x.1) cs) := by
    rw [← Array.foldl_toList]; simp
  have e2 := h.2 k
  rw [← e1] at e2
  have e3 : (us.toArray.zipIdx.foldl (fun cs x => match x with | (c, j) => cs.setIfInBounds (off + j) c) cs) = (us.toArray.zipIdx.foldl (fun cs (x : Value × Nat) => cs.setIfInBounds (off + x.2) x.1) cs) := rfl
  rw [e3, e2, Nat.add_zero, List.append_assoc]
  have hcl : cs.toList.length = cs.size := rfl
  by_cases h1 : k < off
  · rw [if_neg (by omega), List.getElem?_append_left (by simp; omega), List.getElem?_take, if_pos h1, Array.getElem?_toList]
  · rw [List.getElem?_append_right (by simp; omega)]
    have hmin : (List.take off cs.toList).length = off := by simp; omega
    rw [hmin]
    by_cases h2 : k < off + us.length
    · rw [if_pos ⟨by omega, h2, by omega⟩, List.getElem?_append_left (by omega)]
    · rw [if_neg (by omega), List.getElem?_append_right (by omega), List.getElem?_drop, ← Array.getElem?_toList]
      congr 1
      omega

/-- The parts of a struct, or an array, one by one. -/
theorem fill_sound {fz : Bool} {P : Program} {st : St} {t : TypeId} {i : TI} {place : Nat → Option (Nat × Nat)} (hi : Inv O st a C) (hplace : ∀ j o' u, (match i.ty with | .flt => offT [.f j] .flt | .array n s => offT [.i j] (.array n s) | ty => offT (rsteps j) ty) = some (o', u) → place j = some (o', u.size)) :
    ∀ (l : List (Nat × AV)) (xs : List (Nat × Value)) (v : AV) (m : List (Nat × Blk)) (cs : Array Value) (k : AV → List (Nat × Blk) → Q Pend) (r : Pend),
      l.map (·.1) = xs.map (·.1) → RAs C (l.map (·.2)) (xs.map (·.2)) → fits v i.ty = true → Valid C m → RC (C.mk' m) v cs.toList → (fill fz i.ty v l m k).ev st = some r →
      ∃ v' m' cs', (k v' m').ev st = some r ∧ Instr.fill place cs xs = some cs' ∧ fits v' i.ty = true ∧ Valid C m' ∧ RC (C.mk' m') v' cs'.toList := by
  intro l
  induction l with
  | nil =>
    intro xs v m cs k r hx _ hf hm hr h
    cases xs with
    | nil => exact ⟨v, m, cs, by simpa [fill] using h, rfl, hf, hm, hr⟩
    | cons => simp at hx
  | cons q l ih =>
    intro xs v m cs k r hx hra hf hm hr h
    obtain ⟨j, u⟩ := q
    cases xs with
    | nil => simp at hx
    | cons x xs =>
      obtain ⟨j', val⟩ := x
      simp only [List.map_cons, List.cons.injEq] at hx
      obtain ⟨rfl, hx⟩ := hx
      obtain ⟨hu, hra⟩ := hra
      have hcl := fits_length v i.ty _ hf hr
      -- typed data into a typed place
      have typed : ∀ (s : Ty) (off : Nat) (y : s.den) (n : List (Nat × Blk)) (us : List Value) (z : i.ty.den) (x0 : i.ty.den), v = .ro i.ty x0 → place j = some (off, s.size) → off + s.size ≤ i.ty.size → val = pack s.isAgg us → Valid C n → RepT C.w (ROm C n) s y us →
          wft i.ty z → enc i.ty z = (enc i.ty x0).take off ++ enc s y ++ (enc i.ty x0).drop (off + s.size) → (fill fz i.ty (.ro i.ty z) l (m ++ n) k).ev st = some r →
          ∃ v' m' cs', (k v' m').ev st = some r ∧ Instr.fill place cs ((j, val) :: xs) = some cs' ∧ fits v' i.ty = true ∧ Valid C m' ∧ RC (C.mk' m') v' cs'.toList := by
        rintro s off y n us z x0 rfl hp hle hval hn hy hwz hez h
        have hyl := hy.length
        have hvc : val.cells = us.toArray := by
          rw [hval]
          unfold pack
          cases ha : s.isAgg with
          | true => rfl
          | false =>
            have hs1 : s.size = 1 := by cases s <;> simp_all [Ty.isAgg, Ty.size]
            rw [hs1] at hyl
            have hone := hy.one
            match us, hyl, hone with
            | [q], _, hone => simp only [Bool.false_eq_true, if_false, List.headD_cons]; exact (hone q (by simp)).1
        rw [fill_step place cs j off val us xs (by rw [hp, hyl]) hvc (by rw [hyl, ← Array.length_toList, hcl]; exact hle)]
        refine ih xs (.ro i.ty z) (m ++ n) _ k r hx hra (by simp [fits]) (hm.append hn) ⟨hwz, ?_⟩ h
        rw [hez, hyl]
        have hr' : Reps C.w (ROm C m) (enc i.ty x0) cs.toList := hr.2
        exact (hr'.keep (keep_mono (n := m ++ n) (fun z hz => by simp [hz]))).splice (hy.2.keep (keep_mono (n := m ++ n) (fun z hz => by simp [hz]))) _ _
      have conv : ∀ (s : Ty) (k' : s.den → List (Nat × Blk) → Q Pend), (toT s u k').ev st = some r → ∃ us y n, val = pack s.isAgg us ∧ (k' y n).ev st = some r ∧ Valid C n ∧ RepT C.w (ROm C n) s y us := by
        intro s k' h
        have hag := toT_agg h
        obtain ⟨us, hus, e⟩ := hu.rc (by rintro rfl; cases s <;> simp [toT, toT0, Q.ev] at h)
        have hq_ := toT_sound hi.si hi.c.wok u s us _ hus h
        clear h
        obtain ⟨y, n, h, hn, hy⟩ := hq_
        have e : val = _ := e
        exact ⟨us, y, n, by rw [e, hag], h, hn, hy⟩
      have plainF : (∃ x, offT (rsteps j) i.ty = some x ∧ (toT x.2 u fun y q => setA (rsteps j) v (.ro x.2 y) fun v' => fill fz i.ty v' l (m ++ q) k).ev st = some r) → (∀ off s, offT (rsteps j) i.ty = some (off, s) → place j = some (off, s.size)) →
          ∃ v' m' cs', (k v' m').ev st = some r ∧ Instr.fill place cs ((j, val) :: xs) = some cs' ∧ fits v' i.ty = true ∧ Valid C m' ∧ RC (C.mk' m') v' cs'.toList := by
        rintro ⟨⟨off, s⟩, ho, h⟩ hp
        have hq1 := conv s _ h
        clear h
        obtain ⟨us, y, n, e, h, hn, hy⟩ := hq1
        have hro : RC (C.mk' (m ++ n)) (.ro s y) us := hy.keep (keep_mono (n := m ++ n) (fun z hz => by simp [hz]))
        have hr2 := hr.ext (Ext.mark_mono hm hn)
        obtain ⟨w', h1, h2, h3⟩ := setA_part (.ro s y) us s (by simp [fits]) hro _ _ _ _ _ off hf hr2 ho h
        have hul := hy.length
        have hle := offT_le _ _ _ _ ho
        rw [fill_step place cs j off val us xs (by rw [hp _ _ ho, hul]) (by rw [e]; exact pack_cells (v := .ro s y) (t := s) (by simp [fits]) hro) (by rw [hul, ← Array.length_toList, hcl]; exact hle)]
        refine ih xs w' (m ++ n) _ k r hx hra h2 (hm.append hn) ?_ h1
        rw [hul]
        exact h3
      have plain : (∃ x, offT (rsteps j) i.ty = some x ∧ (Q.chk (fits u x.2 = true) inferInstance (setA (rsteps j) v u fun v' => fill fz i.ty v' l m k)).ev st = some r) → (∀ off s, offT (rsteps j) i.ty = some (off, s) → place j = some (off, s.size)) →
          ∃ v' m' cs', (k v' m').ev st = some r ∧ Instr.fill place cs ((j, val) :: xs) = some cs' ∧ fits v' i.ty = true ∧ Valid C m' ∧ RC (C.mk' m') v' cs'.toList := by
        rintro ⟨⟨off, s⟩, ho, h⟩ hp
        · have hfu := (chk_ev h).1
          replace h := (chk_ev h).2
          obtain ⟨us, hus, e⟩ := hu.rc (by rintro rfl; cases s <;> simp [fits] at hfu)
          have e : val = _ := e
          have hus' := hus.ext (Ext.mark hm)
          obtain ⟨w', h1, h2, h3⟩ := setA_part u us s hfu hus' _ _ _ _ _ off hf hr ho h
          have hul := fits_length u s us hfu hus
          have hle := offT_le _ _ _ _ ho
          rw [fill_step place cs j off val us xs (by rw [hp _ _ ho, hul]) (by rw [e]; exact pack_cells hfu hus) (by rw [hul, ← Array.length_toList, hcl]; exact hle)]
          refine ih xs w' m _ k r hx hra h2 hm ?_ h1
          rw [hul]
          exact h3
      cases hty : i.ty with
      | flt =>
        rw [hty] at hplace hf
        cases v with
        | ro s x0 =>
          simp [fits] at hf
          subst hf
          have h' : (match offT [.f j] .flt with
            | some x => toT x.2 u fun y n => setT [.f j] .flt x0 x.2 y fun g => fill fz .flt (.ro .flt g) l (m ++ n) k
            | none => .fail).ev st = some r := by rw [hty] at h; exact h
          cases ho : offT [.f j] .flt with
          | none => rw [ho] at h'; simp [Q.ev] at h'
          | some q =>
            obtain ⟨off, s⟩ := q
            rw [ho] at h'
            obtain ⟨us, y, n, e, h', hn, hy⟩ := conv s _ h'
            obtain ⟨off', z, h1, h2, h3, h4⟩ := setT_part s y hy.1 _ _ _ _ (show wft .flt x0 from trivial) h'
            rw [ho] at h1
            simp only [Option.some.injEq, Prod.mk.injEq, and_true] at h1
            subst h1
            have := offT_le _ _ _ _ ho
            have tt := typed s off y n us
            rw [hty] at tt
            exact tt z x0 rfl (hplace _ _ _ ho) this e hn hy h3 h4 h2
        | _ => simp [fits] at hf
      | array n0 s0 =>
        rw [hty] at hplace hf
        cases v with
        | ro s x0 =>
          simp [fits] at hf
          subst hf
          have h' : (toT s0 u fun y q => setT [.i j] (.array n0 s0) x0 s0 y fun g => fill fz (.array n0 s0) (.ro (.array n0 s0) g) l (m ++ q) k).ev st = some r := by rw [hty] at h; exact h
          obtain ⟨us, y, n, e, h', hn, hy⟩ := conv s0 _ h'
          have hw0 : wft (.array n0 s0) x0 := hr.1
          obtain ⟨off', z, h1, h2, h3, h4⟩ := setT_part s0 y hy.1 _ _ _ _ hw0 h'
          have := offT_le _ _ _ _ h1
          have tt := typed s0 off' y n us
          rw [hty] at tt
          exact tt z x0 rfl (hplace _ _ _ h1) this e hn hy h3 h4 h2
        | _ => simp [fits] at hf
      | _ =>
        rw [hty] at hplace hf plain plainF h ih
        simp only [fill] at h
        split at h
        · rename_i q hq
          cases fz with
          | true => exact plainF ⟨q, hq, h⟩ (fun off s ho => hplace _ _ _ ho)
          | false => exact plain ⟨q, hq, h⟩ (fun off s ho => hplace _ _ _ ho)
        · simp [Q.ev] at h
end Go.Proofs.Cdm
