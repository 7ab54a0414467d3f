/-
What is led to by deep data is not stored into any more: marks; and how the frame's values become deep data.
-/
import Derived.Test.YtagmelohcilicaaGreatDoorCv4
namespace Go.Proofs.Cdm
open Go

def ROm (C : Ctx) (m : List (Nat × Blk)) (b o : Nat) : Prop :=
  C.RO b o ∨ (∃ d t e g l, (d, Blk.sl t e g false l) ∈ m ∧ blkV (C.ν d) = some b ∧ o < l.length * t.size) ∨ (∃ d, (d, Blk.dead) ∈ m ∧ C.φ d = b)
def Valid (C : Ctx) (m : List (Nat × Blk)) : Prop := ∀ x ∈ m,
  (∃ t e g ex l, x.2 = .sl t e g false l ∧ look C.si x.1 = some (.sl t e g ex l)) ∨
  (∃ t v, x.2 = .dead ∧ look C.si x.1 = some (.box t v) ∧ ¬ (1000 ≤ x.1 ∧ x.1 < 10000))
def Ctx.mk' (C : Ctx) (m : List (Nat × Blk)) : Ctx := ⟨C.w, ROm C m, m ++ C.si, C.φ, C.ν⟩

theorem Valid.nil (C : Ctx) : Valid C [] := fun x h => by simp at h
theorem Valid.append {C : Ctx} {m n : List (Nat × Blk)} (h : Valid C m) (k : Valid C n) : Valid C (m ++ n) := fun x hx => by
  rcases List.mem_append.1 hx with hx | hx
  · exact h x hx
  · exact k x hx
theorem ROm.mono {C : Ctx} {m n : List (Nat × Blk)} (h : ∀ x ∈ m, x ∈ n) {b o : Nat} (k : ROm C m b o) : ROm C n b o := by
  rcases k with k | ⟨d, t, e, g, l, h1, h2⟩ | ⟨d, h1, h2⟩
  · exact .inl k
  · exact .inr (.inl ⟨d, t, e, g, l, h _ h1, h2⟩)
  · exact .inr (.inr ⟨d, h _ h1, h2⟩)
theorem keep_ROm (C : Ctx) (m : List (Nat × Blk)) : Keep C.w C.w C.RO (ROm C m) := ⟨fun _ _ h => .inl h, fun _ _ _ _ h => h⟩
theorem keep_mono {C : Ctx} {m n : List (Nat × Blk)} (h : ∀ x ∈ m, x ∈ n) : Keep C.w C.w (ROm C m) (ROm C n) := ⟨fun _ _ k => ROm.mono h k, fun _ _ _ _ h => h⟩

theorem look_mem {α : Type} {l : List (Nat × α)} {d : Nat} {b : α} (h : look l d = some b) : (d, b) ∈ l := by
  induction l with
  | nil => simp [look_nil] at h
  | cons x l ih =>
    rw [look_cons] at h
    split at h
    · rename_i e
      injection h with h
      subst e h
      simp
    · exact List.mem_cons_of_mem _ (ih h)
theorem look_none {α : Type} {l : List (Nat × α)} {d : Nat} (h : look l d = none) : ∀ x ∈ l, x.1 ≠ d := by
  induction l with
  | nil => simp
  | cons x l ih =>
    rw [look_cons] at h
    split at h
    · simp at h
    · rename_i e
      intro y hy
      rcases List.mem_cons.1 hy with rfl | hy
      · exact e
      · exact ih h y hy
theorem look_mk {C : Ctx} {m : List (Nat × Blk)} (h : Valid C m) {d : Nat} {b : Blk} (hb : look (m ++ C.si) d = some b) :
    (look C.si d = some b ∧ ∀ x ∈ m, x.1 ≠ d) ∨ ((d, b) ∈ m ∧ ((∃ t e g ex l, b = .sl t e g false l ∧ look C.si d = some (.sl t e g ex l)) ∨ (∃ t v, b = .dead ∧ look C.si d = some (.box t v) ∧ ¬ (1000 ≤ d ∧ d < 10000)))) := by
  rw [look_append] at hb
  cases hm : look m d with
  | none => rw [hm] at hb; exact .inl ⟨by simpa using hb, look_none hm⟩
  | some b' =>
    rw [hm] at hb
    have hb : b' = b := by simpa using hb
    subst hb
    exact .inr ⟨look_mem hm, h _ (look_mem hm)⟩
theorem look_mk_some {C : Ctx} {m : List (Nat × Blk)} (h : Valid C m) {d : Nat} {b : Blk} (hb : look C.si d = some b) : ∃ b', look (m ++ C.si) d = some b' := by
  rw [look_append]
  cases look m d <;> simp [hb]

theorem Ext.mark {C : Ctx} {m : List (Nat × Blk)} (h : Valid C m) : Ext C (C.mk' m) := by
  refine ⟨keep_ROm C m, fun d b hb => ?_⟩
  obtain ⟨b', hb'⟩ := look_mk_some h hb
  refine ⟨b', hb', fun t v' e => ?_, fun t e g' ex' l' e' => ?_⟩
  · subst e
    rcases look_mk h hb' with ⟨h1, _⟩ | ⟨_, ⟨_, _, _, _, _, h1, _⟩ | ⟨_, _, h1, _⟩⟩
    · rw [hb] at h1; injection h1 with h1; exact ⟨⟨v', h1⟩, rfl⟩
    · cases h1
    · cases h1
  · subst e'
    rcases look_mk h hb' with ⟨h1, _⟩ | ⟨_, ⟨t1, e1, g1, ex1, l1, h1, h2⟩ | ⟨_, _, h1, _⟩⟩
    · rw [hb] at h1; injection h1 with h1; exact ⟨g', ex', l', h1, Nat.le_refl _, fun _ => ⟨rfl, rfl⟩⟩
    · rw [hb] at h2
      injection h2 with h2
      cases h1
      exact ⟨g', ex1, l', h2, Nat.le_refl _, fun _ => ⟨rfl, rfl⟩⟩
    · cases h1

theorem blk_lt {C : Ctx} (hw : WOk C) {d : Nat} {b : Blk} {k : Nat} (h : look C.si d = some b) (hk : blkOf C d b = some k) : k < C.w.heap.size := by
  have := hw.site d b h
  cases b with
  | box t v =>
    obtain ⟨_, c, e, h1, _⟩ := this
    simp only [blkOf, Option.some.injEq] at hk
    subst hk
    exact (Array.getElem?_eq_some_iff.1 h1).1
  | sl t e g ex l =>
    obtain ⟨_, _, _, vs, ⟨_, _, a, _, h1⟩ | ⟨g', cap, cur, h1, hc, h2, _⟩, _⟩ := this
    · simp only [blkOf] at hk
      rw [h1] at hk
      cases a <;> simp [blkV] at hk
    · simp only [blkOf] at hk
      rw [h1] at hk
      simp only [blkV, if_pos hc, Option.some.injEq] at hk
      subst hk
      exact (Array.getElem?_eq_some_iff.1 h2).1
  | dead => simp [blkOf] at hk

/-- Which blocks' cells are marked. -/
theorem ROm.block {C : Ctx} {m : List (Nat × Blk)} (h : Valid C m) {b o : Nat} (k : ROm C m b o) : C.RO b o ∨ ∃ d blk, look C.si d = some blk ∧ blkOf C d blk = some b ∧
    ((∃ t e g l ex, (d, Blk.sl t e g false l) ∈ m ∧ blk = .sl t e g ex l ∧ o < l.length * t.size) ∨ ((d, Blk.dead) ∈ m ∧ (∃ t v, blk = .box t v) ∧ ¬ (1000 ≤ d ∧ d < 10000))) := by
  rcases k with k | ⟨d, t, e, g, l, h1, h2, h3⟩ | ⟨d, h1, h2⟩
  · exact .inl k
  · rcases h _ h1 with ⟨t', e', g', ex, l', h4, h5⟩ | ⟨_, _, h4, _⟩
    · cases h4
      exact .inr ⟨d, _, h5, h2, .inl ⟨t, e, g, l, ex, h1, rfl, h3⟩⟩
    · cases h4
  · rcases h _ h1 with ⟨t', e', g', ex, l', h4, h5⟩ | ⟨t, v, _, h4, h5⟩
    · cases h4
    · exact .inr ⟨d, _, h4, by simp [blkOf, h2], .inr ⟨h1, ⟨t, v, rfl⟩, h5⟩⟩

theorem WOk.mark {C : Ctx} (hw : WOk C) {m : List (Nat × Blk)} (h : Valid C m) : WOk (C.mk' m) := by
  have he := Ext.mark h
  refine ⟨fun d b hb => ?_, fun d d' b b' k hb hb' hk hk' => ?_, fun b o hr => ?_⟩
  · rcases look_mk h hb with ⟨h1, h2⟩ | ⟨hm, ⟨t, e, g, ex, l, rfl, h1⟩ | ⟨t, v, rfl, h1, h2⟩⟩
    · have hs := hw.site d b h1
      cases b with
      | box t v =>
        obtain ⟨hf, c, e, h3, h4, h5⟩ := hs
        refine ⟨hf, c, e, h3, h4.ext he, fun o hr => ?_⟩
        rcases hr.block h with hr | ⟨d', blk, h6, h7, h8⟩
        · exact h5 o hr
        · have := hw.sep d d' _ _ (C.φ d) h1 h6 rfl h7
          subst this
          rcases h8 with ⟨t', e', g', l', ex', h9, _⟩ | ⟨h9, _⟩
          · exact h2 _ h9 rfl
          · exact h2 _ h9 rfl
      | sl t e g ex l =>
        obtain ⟨hz, hl, hf, vs, h3, h4, h5⟩ := hs
        refine ⟨hz, hl, hf, vs, h3, h4.keep (keep_ROm C m), fun b o hb hr => ?_⟩
        rcases hr.block h with hr | ⟨d', blk, h6, h7, h8⟩
        · exact h5 b o hb hr
        · have := hw.sep d d' _ _ b h1 h6 hb h7
          subst this
          rcases h8 with ⟨t', e', g', l', ex', h9, _⟩ | ⟨h9, _⟩
          · exact absurd rfl (h2 _ h9)
          · exact absurd rfl (h2 _ h9)
      | dead => trivial
    · obtain ⟨hz, hl, hf, vs, h3, h4, h5⟩ := hw.site d _ h1
      refine ⟨hz, hl, hf, vs, h3, h4.keep (keep_ROm C m), fun b o hb hr => ?_⟩
      rcases hr.block h with hr | ⟨d', blk, h6, h7, h8⟩
      · exact ⟨rfl, (h5 b o hb hr).2⟩
      · have := hw.sep d d' _ _ b h1 h6 hb h7
        subst this
        rw [h1] at h6
        injection h6 with h6
        rcases h8 with ⟨t', e', g', l', ex', h9, h10, h11⟩ | ⟨_, ⟨t', v', h10⟩, _⟩
        · subst h6
          cases h10
          exact ⟨rfl, h11⟩
        · subst h6
          cases h10
    · trivial
  · have old : ∀ d b k, look (m ++ C.si) d = some b → blkOf (C.mk' m) d b = some k → ∃ b1, look C.si d = some b1 ∧ blkOf C d b1 = some k := by
      intro d b k hb hk
      rcases look_mk h hb with ⟨h1, _⟩ | ⟨hm, ⟨t, e, g, ex, l, rfl, h1⟩ | ⟨t, v, rfl, h1, h2⟩⟩
      · exact ⟨b, h1, by cases b <;> exact hk⟩
      · exact ⟨_, h1, hk⟩
      · simp [blkOf] at hk
    obtain ⟨b1, h1, h2⟩ := old d b k hb hk
    obtain ⟨b2, h3, h4⟩ := old d' b' k hb' hk'
    exact hw.sep d d' b1 b2 k h1 h3 h2 h4
  · rcases ROm.block h hr with hr | ⟨d', blk, h6, h7, _⟩
    · exact hw.ro b o hr
    · exact blk_lt hw h6 h7

theorem CInv.mark {O : Old} {C : Ctx} (hc : CInv O C) {m : List (Nat × Blk)} (h : Valid C m) : CInv O (C.mk' m) := by
  refine ⟨hc.wok.mark h, hc.os, hc.tape, hc.output, hc.grow, hc.old, hc.keep0.trans (Ext.mark h).keep, fun b o x => ?_, fun d b k hb hk => ?_, fun j t v hj hb => ?_⟩
  · rcases ROm.block h x with x | ⟨d, blk, h1, h2, h3⟩
    · exact hc.roNew b o x
    · rcases hc.mine d blk b h1 h2 with h4 | ⟨_, h5, h6, t, v, h7⟩
      · exact .inr h4
      · subst h7
        rcases h3 with ⟨_, _, _, _, _, _, h8, _⟩ | ⟨_, _, h8⟩
        · cases h8
        · exact absurd ⟨h5, h6⟩ h8
  · rcases look_mk h hb with ⟨h1, _⟩ | ⟨hm, ⟨t, e, g, ex, l, rfl, h1⟩ | ⟨t, v, rfl, h1, h2⟩⟩
    · exact hc.mine d b k h1 (by cases b <;> exact hk)
    · rcases hc.mine d _ k h1 hk with h2 | ⟨_, _, _, _, _, h3⟩
      · exact .inl h2
      · cases h3
    · simp [blkOf] at hk
  · rcases look_mk h hb with ⟨h1, _⟩ | ⟨hm, ⟨_, _, _, _, _, h1, _⟩ | ⟨_, _, h1, _⟩⟩
    · exact hc.held j t v hj h1
    · cases h1
    · cases h1

theorem Rep.ofOwn {C : Ctx} {RO : Nat → Nat → Prop} (hr : ∀ b o, C.RO b o → RO b o) {t : Ty} {e : TypeId} {l : List t.den} {v : Value} {vs : List Value} (hl : l.length ≤ LIM) (hf : ∀ x ∈ l, wft t x)
    (h : OwnV C.w e t.size v l.length vs) (k : Reps C.w C.RO (l.flatMap (enc t)) vs) (hb : ∀ b o, blkV v = some b → o < l.length * t.size → RO b o) : RepT C.w RO (.slice t) l [v] := by
  refine ⟨hf, ?_⟩
  simp only [enc]
  apply Reps.one
  have hvs : vs.length = l.length * t.size := h.length
  rcases h with ⟨hn, _, a, ha, rfl⟩ | ⟨g, cap, cur, rfl, hcap, hg, hn, _, hc, ht⟩
  · have : l = [] := List.eq_nil_of_length_eq_zero hn
    subst this
    exact .sl0 _ _ ha
  · by_cases h0 : l = []
    · subst h0
      exact .sl0 _ _ rfl
    · have hlen : (l.flatMap (enc t)).length = l.length * t.size := length_flatMap_of _ _ _ (fun x hx => length_enc t x (hf x hx))
      have hpos : 0 < l.length := List.length_pos_iff.2 h0
      refine .sl _ _ _ _ _ (fun j => vs.getD j undef) hpos hl hn (fun j hj => ?_) (fun j hj => ?_) (fun j hj => ?_)
      · rw [cell_of_row C.w g _ cur e (0, 0) hg, Nat.zero_add, ← Array.getElem?_toList]
        have h1 : vs[j]? = cur.toList[j]? := by rw [← ht, List.getElem?_take, if_pos (by omega)]
        rw [← h1, List.getElem?_eq_getElem (by omega)]
        simp [List.getD, List.getElem?_eq_getElem (show j < vs.length by omega)]
      · rw [Nat.zero_add]; exact hb g j (by simp [blkV, hcap]) (by omega)
      · have := k.2 j hj (by omega)
        have e1 : vs.getD j undef = vs[j]'(by omega) := by simp [List.getD, List.getElem?_eq_getElem (show j < vs.length by omega)]
        rw [e1]
        exact this.keep ⟨fun b o x => hr b o x, fun _ _ _ _ h => h⟩

theorem toT0_sound {α : Type} {st : St} {r : α} {C : Ctx} (hsi : C.si = st.si) (hw : WOk C) : ∀ (v : AV) (t : Ty) (vs : List Value) (k : t.den → List (Nat × Blk) → Q α), RC C v vs → (toT0 t v k).ev st = some r →
    ∃ x m, (k x m).ev st = some r ∧ Valid C m ∧ RepT C.w (ROm C m) t x vs := by
  intro v
  induction v with
  | ro u x =>
    intro t vs k hv h
    have h' : (Q.opt (castT u t x) fun y => k y []).ev st = some r := by cases t <;> exact h
    simp only [Q.ev, Option.bind_eq_some_iff] at h'
    obtain ⟨y, hy, h'⟩ := h'
    obtain ⟨e, hy⟩ := castT_some hy
    subst e
    simp at hy
    subst hy
    exact ⟨y, [], h', Valid.nil C, RepT.keep (keep_ROm C []) hv⟩
  | nils u =>
    intro t vs k hv h
    cases t with
    | slice t =>
      simp only [toT0, Q.ev] at h
      split at h
      · rename_i e
        subst e
        obtain ⟨a, ha, rfl⟩ := hv
        exact ⟨[], [], h, Valid.nil C, ⟨fun x hx => by simp at hx, by simp only [enc]; exact Reps.one (.sl0 _ _ ha)⟩⟩
      · simp at h
    | _ => simp [toT0, Q.ev] at h
  | own d g =>
    intro t vs k hv h
    cases t with
    | slice t =>
      simp only [toT0, Q.ev] at h
      cases hd : st.s d with
      | none => rw [hd] at h; simp [Q.ev] at h
      | some b =>
        rw [hd] at h
        cases b with
        | sl u e g' ex l =>
          simp only [Q.ev] at h
          split at h
          · rename_i hg
            subst hg
            simp only [Option.bind_eq_some_iff] at h
            obtain ⟨y, hy, h⟩ := h
            obtain ⟨e1, hy⟩ := castT_some hy
            injection e1 with e1
            subst e1
            simp at hy
            subst hy
            have hl : look C.si d = some (.sl u e g ex y) := by rw [hsi]; exact hd
            obtain ⟨v, rfl, h1, _, h2⟩ := hv
            obtain ⟨_, h3⟩ := h2 _ _ _ _ _ hl
            obtain ⟨hz, hle, hf, us, h4, h5, h6⟩ := hw.site d _ hl
            refine ⟨y, _, h, fun x hx => ?_, ?_⟩
            · simp only [List.mem_singleton] at hx
              subst hx
              exact .inl ⟨u, e, g, ex, y, rfl, hl⟩
            · rw [h3 rfl]
              exact Rep.ofOwn (fun b o x => .inl x) hle hf h4 h5 (fun b o hb ho => .inr (.inl ⟨d, u, e, g, y, by simp, hb, ho⟩))
          · simp at h
        | _ => simp [Q.ev] at h
    | _ => simp [toT0, Q.ev] at h
  | pair a b iha ihb =>
    intro t vs k hv h
    cases t with
    | cons t u =>
      obtain ⟨us, ts, rfl, h1, h2⟩ := hv
      simp only [toT0] at h
      obtain ⟨x, m, h3, h4, h5⟩ := iha t us _ h1 h
      obtain ⟨y, n, h6, h7, h8⟩ := ihb u ts _ h2 h3
      refine ⟨(x, y), m ++ n, h6, h4.append h7, ⟨⟨h5.1, h8.1⟩, ?_⟩⟩
      simp only [enc]
      exact (h5.2.keep (keep_mono (fun z hz => by simp [hz]))).append (h8.2.keep (keep_mono (fun z hz => by simp [hz])))
    | _ => simp [toT0, Q.ev] at h
  | unit =>
    intro t vs k hv h
    cases t with
    | unit =>
      have hv : vs = [] := hv
      subst hv
      exact ⟨(), [], h, Valid.nil C, ⟨trivial, Reps.nil⟩⟩
    | _ => simp [toT0, Q.ev] at h
  | _ => intro t vs k hv h; cases t <;> simp [toT0, Q.ev] at h

theorem toT_sound {α : Type} {st : St} {r : α} {C : Ctx} (hsi : C.si = st.si) (hw : WOk C) : ∀ (v : AV) (t : Ty) (vs : List Value) (k : t.den → List (Nat × Blk) → Q α), RC C v vs → (toT t v k).ev st = some r →
    ∃ x m, (k x m).ev st = some r ∧ Valid C m ∧ RepT C.w (ROm C m) t x vs := by
  intro v
  induction v with
  | ipt tid d =>
    intro t vs k hv h
    cases t with
    | ifc =>
      simp only [toT, Q.ev] at h
      split at h
      · rename_i hdn
        cases hd : st.s d with
        | none => rw [hd] at h; simp [Q.ev] at h
        | some b =>
          rw [hd] at h
          cases b with
          | box ty v =>
            have hl : look C.si d = some (.box ty v) := by rw [hsi]; exact hd
            obtain ⟨hf, c, e, h1, h2, h3⟩ := hw.site d _ hl
            obtain ⟨a, rfl, _, h4⟩ := hv
            obtain rfl := h4 _ _ hl
            obtain ⟨x, m, h5, h6, h7⟩ := toT0_sound hsi hw v ty _ _ h2 h
            refine ⟨_, _, h5, fun y hy => ?_, rfl, ?_⟩
            · rcases List.mem_cons.1 hy with rfl | hy
              · exact .inr ⟨ty, v, rfl, hl, hdn⟩
              · exact h6 y hy
            · simp only [enc]
              apply Reps.one
              have h7' := h7.2.keep (keep_mono (n := (d, Blk.dead) :: m) (fun z hz => by simp [hz]))
              refine .ifc _ _ _ rfl (.ptr _ _ _ (fun j => c.toList.getD j undef) (fun j hj => ?_) (fun j hj => ?_) (fun j hj => ?_))
              · rw [cell_of_row C.w _ _ c e (0, 0) h1, Nat.zero_add, ← Array.getElem?_toList]
                have := h7.2.1
                rw [List.getElem?_eq_getElem (by omega)]
                simp only [List.getD, List.getElem?_eq_getElem (show j < c.toList.length by omega), Option.getD_some]
              · exact .inr (.inr ⟨d, by simp, rfl⟩)
              · have hj' : j < c.toList.length := by have := h7.2.1; omega
                have := h7'.2 j hj hj'
                have e1 : c.toList.getD j undef = c.toList[j] := by simp only [List.getD, List.getElem?_eq_getElem hj', Option.getD_some]
                rw [e1]
                exact this
          | _ => simp [Q.ev] at h
      · simp at h
    | _ => simp [toT, toT0, Q.ev] at h
  | pair a b iha ihb =>
    intro t vs k hv h
    cases t with
    | cons t u =>
      obtain ⟨us, ts, rfl, h1, h2⟩ := hv
      simp only [toT] at h
      obtain ⟨x, m, h3, h4, h5⟩ := iha t us _ h1 h
      obtain ⟨y, n, h6, h7, h8⟩ := ihb u ts _ h2 h3
      refine ⟨(x, y), m ++ n, h6, h4.append h7, ⟨⟨h5.1, h8.1⟩, ?_⟩⟩
      simp only [enc]
      exact (h5.2.keep (keep_mono (fun z hz => by simp [hz]))).append (h8.2.keep (keep_mono (fun z hz => by simp [hz])))
    | _ => simp [toT, toT0, Q.ev] at h
  | _ =>
    intro t vs k hv h
    exact toT0_sound hsi hw _ t vs k hv (by cases t <;> exact h)
end Go.Proofs.Cdm
