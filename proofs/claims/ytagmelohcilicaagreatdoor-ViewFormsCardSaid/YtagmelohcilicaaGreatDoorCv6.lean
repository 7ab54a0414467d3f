/-
Memory moves on: new blocks, own rows that grow, variables that are stored into.
-/
import Derived.Test.YtagmelohcilicaaGreatDoorCv5
namespace Go.Proofs.Cdm
open Go Go.RowKit

theorem heap_of_lt {C : Ctx} {w' : World} (hb : Below C.w.heap.size C.w w') {k : Nat} {o : Obj} (h : C.w.heap[k]? = some o) : w'.heap[k]? = some o := by
  rw [hb.block k (Array.getElem?_eq_some_iff.1 h).1]; exact h
theorem cell_of_heap {w w' : World} {b o : Nat} (h : w'.heap[b]? = w.heap[b]?) : w'.cell? ⟨b, o, none⟩ = w.cell? ⟨b, o, none⟩ := by
  unfold World.cell?; simp only [h]
theorem grown_of_below {w w1 : World} (h : Below w.heap.size w w1) : w.grownBy w1 none := ⟨h.os, h.tape, h.output, h.size, fun i hi _ => h.block i hi⟩

/-- New memory, no new site. -/
theorem grow0 {O : Old} {C : Ctx} (hc : CInv O C) {w' : World} (hb : Below C.w.heap.size C.w w') (RO' : Nat → Nat → Prop) (h1 : ∀ b o, C.RO b o → RO' b o)
    (h2 : ∀ b o, RO' b o → C.RO b o ∨ (C.w.heap.size ≤ b ∧ b < w'.heap.size)) : Ext C ⟨w', RO', C.si, C.φ, C.ν⟩ ∧ CInv O ⟨w', RO', C.si, C.φ, C.ν⟩ := by
  have he : Ext C ⟨w', RO', C.si, C.φ, C.ν⟩ := by
    refine ⟨⟨h1, fun b o v hr hcell => ?_⟩, fun d b h => ⟨b, h, fun t v' h' => ⟨⟨v', h'⟩, rfl⟩, fun t e g' ex' l' h' => ⟨g', ex', l', h', Nat.le_refl _, fun _ => ⟨rfl, rfl⟩⟩⟩⟩
    rw [cell_of_heap (hb.block b (hc.wok.ro b o hr))]; exact hcell
  have far : ∀ d b k, look C.si d = some b → blkOf C d b = some k → ∀ o, RO' k o → C.RO k o := by
    intro d b k h hk o hr
    rcases h2 k o hr with hr | ⟨hr, _⟩
    · exact hr
    · have := blk_lt hc.wok h hk; omega
  refine ⟨he, ⟨⟨fun d b h => ?_, fun d d' b b' k h h' hk hk' => ?_, fun b o hr => ?_⟩, hb.os.trans hc.os, hb.tape.trans hc.tape, hb.output.trans hc.output, Nat.le_trans hc.grow hb.size,
    fun b hlt hn => (hb.block b (Nat.lt_of_lt_of_le hlt hc.grow)).trans (hc.old b hlt hn), hc.keep0.trans he.keep, fun b o hr => ?_, fun d b k h hk => ?_, fun j t v hj h => hc.held j t v hj h⟩⟩
  · have hs := hc.wok.site d b h
    cases b with
    | box t v =>
      obtain ⟨hf, c, e, h3, h4, h5⟩ := hs
      exact ⟨hf, c, e, heap_of_lt hb h3, h4.ext he, fun o hr => h5 o (far d _ _ h rfl o hr)⟩
    | sl t e g ex l =>
      obtain ⟨hz, hl, hf, vs, h3, h4, h5⟩ := hs
      exact ⟨hz, hl, hf, vs, h3.kept (grown_of_below hb) (fun k _ => by simp), h4.keep he.keep, fun b o hk hr => h5 b o hk (far d _ _ h hk o hr)⟩
    | dead => trivial
  · exact hc.wok.sep d d' b b' k h h' (by cases b <;> exact hk) (by cases b' <;> exact hk')
  · rcases h2 b o hr with hr | ⟨_, hr⟩
    · exact Nat.lt_of_lt_of_le (hc.wok.ro b o hr) hb.size
    · exact hr
  · rcases h2 b o hr with hr | ⟨hr, _⟩
    · exact hc.roNew b o hr
    · exact .inr (Nat.le_trans hc.grow hr)
  · exact hc.mine d b k h (by cases b <;> exact hk)

def Ctx.with (C : Ctx) (d : Nat) (b : Blk) (k : Nat) (v : Value) : Ctx :=
  ⟨C.w, C.RO, (d, b) :: C.si, fun x => if x = d then k else C.φ x, fun x => if x = d then v else C.ν x⟩

/-- A new site: its block is new. -/
theorem site1 {O : Old} {C : Ctx} (hc : CInv O C) {d : Nat} {b : Blk} {k : Nat} {v : Value} (hd : look C.si d = none) (hd' : ¬ (1000 ≤ d ∧ d < 10000)) (hs : Ext C (C.with d b k v) → SiteOk (C.with d b k v) d b)
    (hn : ∀ n, blkOf (C.with d b k v) d b = some n → O.w0.heap.size ≤ n ∧ ∀ d1 b1, look C.si d1 = some b1 → blkOf C d1 b1 ≠ some n) : Ext C (C.with d b k v) ∧ CInv O (C.with d b k v) := by
  have old : ∀ d1 b1, look C.si d1 = some b1 → d1 ≠ d := fun d1 b1 h e => by subst e; rw [hd] at h; cases h
  have lk : ∀ d1, d1 ≠ d → look (C.with d b k v).si d1 = look C.si d1 := fun d1 h => by
    show look ((d, b) :: C.si) d1 = _
    rw [look_cons, if_neg (fun e => h e.symm)]
  have lk' : look (C.with d b k v).si d = some b := by
    show look ((d, b) :: C.si) d = _
    rw [look_cons, if_pos rfl]
  have same : ∀ d1 b1, d1 ≠ d → blkOf (C.with d b k v) d1 b1 = blkOf C d1 b1 := fun d1 b1 h => by cases b1 <;> simp [blkOf, Ctx.with, h]
  have he : Ext C (C.with d b k v) := by
    refine ⟨Keep.refl _ _, fun d1 b1 h => ⟨b1, by rw [lk d1 (old d1 b1 h)]; exact h, fun t v' h' => ⟨⟨v', h'⟩, ?_⟩, fun t e g' ex' l' h' => ⟨g', ex', l', h', Nat.le_refl _, fun _ => ⟨?_, rfl⟩⟩⟩⟩
    · simp [Ctx.with, old d1 b1 h]
    · simp [Ctx.with, old d1 b1 h]
  refine ⟨he, ⟨⟨fun d1 b1 h => ?_, fun d1 d2 b1 b2 n h h' hk hk' => ?_, fun b o hr => hc.wok.ro b o hr⟩, hc.os, hc.tape, hc.output, hc.grow, hc.old, hc.keep0.trans he.keep, hc.roNew, fun d1 b1 n h hk => ?_, fun j t u hj h => ?_⟩⟩
  · by_cases e : d1 = d
    · subst e
      rw [lk'] at h
      injection h with h
      subst h
      exact hs he
    · rw [lk d1 e] at h
      have hs1 := hc.wok.site d1 b1 h
      cases b1 with
      | box t u =>
        obtain ⟨hf, c, e1, h3, h4, h5⟩ := hs1
        exact ⟨hf, c, e1, by simp only [Ctx.with, if_neg e]; exact h3, h4.ext he, by simp only [Ctx.with, if_neg e]; exact h5⟩
      | sl t e1 g ex l =>
        obtain ⟨hz, hl, hf, vs, h3, h4, h5⟩ := hs1
        exact ⟨hz, hl, hf, vs, by simp only [Ctx.with, if_neg e]; exact h3, h4, by simp only [Ctx.with, if_neg e]; exact h5⟩
      | dead => trivial
  · by_cases e1 : d1 = d
    · by_cases e2 : d2 = d
      · rw [e1, e2]
      · subst e1
        rw [lk'] at h
        injection h with h
        subst h
        rw [lk d2 e2] at h'
        rw [same d2 b2 e2] at hk'
        exact absurd hk' ((hn n hk).2 d2 b2 h')
    · rw [lk d1 e1] at h
      rw [same d1 b1 e1] at hk
      by_cases e2 : d2 = d
      · subst e2
        rw [lk'] at h'
        injection h' with h'
        subst h'
        exact absurd hk ((hn n hk').2 d1 b1 h)
      · rw [lk d2 e2] at h'
        rw [same d2 b2 e2] at hk'
        exact hc.wok.sep d1 d2 b1 b2 n h h' hk hk'
  · by_cases e1 : d1 = d
    · subst e1
      rw [lk'] at h
      injection h with h
      subst h
      exact .inl (hn n hk).1
    · rw [lk d1 e1] at h
      rw [same d1 b1 e1] at hk
      exact hc.mine d1 b1 n h hk
  · by_cases e1 : 1000 + j = d
    · exact absurd ⟨by omega, by omega⟩ hd'
    · rw [lk _ e1] at h
      obtain ⟨h3, h4, h5⟩ := hc.held j t u hj h
      exact ⟨h3, h4, by simp only [Ctx.with, if_neg e1]; exact h5⟩

/-- New memory and a new site in it. -/
theorem grow1 {O : Old} {C : Ctx} (hc : CInv O C) {w' : World} (hb : Below C.w.heap.size C.w w') {d : Nat} {b : Blk} {k : Nat} {v : Value} (hd : look C.si d = none) (hd' : ¬ (1000 ≤ d ∧ d < 10000))
    (hs : ∀ C', C' = (⟨w', C.RO, C.si, C.φ, C.ν⟩ : Ctx).with d b k v → Ext C C' → SiteOk C' d b)
    (hn : ∀ n, blkOf ((⟨w', C.RO, C.si, C.φ, C.ν⟩ : Ctx).with d b k v) d b = some n → C.w.heap.size ≤ n) :
    Ext C ((⟨w', C.RO, C.si, C.φ, C.ν⟩ : Ctx).with d b k v) ∧ CInv O ((⟨w', C.RO, C.si, C.φ, C.ν⟩ : Ctx).with d b k v) := by
  obtain ⟨e0, c0⟩ := grow0 hc hb C.RO (fun _ _ h => h) (fun _ _ h => .inl h)
  have tr : Ext (⟨w', C.RO, C.si, C.φ, C.ν⟩ : Ctx) ((⟨w', C.RO, C.si, C.φ, C.ν⟩ : Ctx).with d b k v) → Ext C ((⟨w', C.RO, C.si, C.φ, C.ν⟩ : Ctx).with d b k v) := fun e =>
    ⟨e0.keep.trans e.keep, fun d1 b1 h => e.dom d1 b1 h⟩
  obtain ⟨e1, c1⟩ := site1 (d := d) (b := b) (k := k) (v := v) c0 hd hd' (fun e => hs _ rfl (tr e)) (fun n h => ⟨Nat.le_trans hc.grow (hn n h), fun d1 b1 h1 h2 => by
    have := blk_lt hc.wok h1 (show blkOf C d1 b1 = some n by cases b1 <;> exact h2)
    have := hn n h
    omega⟩)
  exact ⟨tr e1, c1⟩

/-- A site's own block is written, or left behind for a new one: nobody else sees it. -/
theorem touch {O : Old} {C : Ctx} (hc : CInv O C) {w' : World} {d : Nat} {b b' : Blk} {v : Value} (hd : look C.si d = some b) {row : Option Nat} (hrow : blkOf C d b = row) (hg : C.w.grownBy w' row)
    (hro : ∀ k o u, row = some k → C.RO k o → C.w.cell? ⟨k, o, none⟩ = some u → w'.cell? ⟨k, o, none⟩ = some u)
    (hcmp : (∀ t v', b' = .box t v' → ∃ v, b = .box t v) ∧ (∀ t e g' ex' l', b' = .sl t e g' ex' l' → ∃ g ex l, b = .sl t e g ex l ∧ g ≤ g' ∧ (g = g' → v = C.ν d ∧ l.length = l'.length)))
    (hs : ∀ C', C' = (⟨w', C.RO, C.si, C.φ, C.ν⟩ : Ctx).with d b' (C.φ d) v → Ext C C' → SiteOk C' d b')
    (hn : ∀ n, blkOf ((⟨w', C.RO, C.si, C.φ, C.ν⟩ : Ctx).with d b' (C.φ d) v) d b' = some n → row = some n ∨ C.w.heap.size ≤ n) :
    Ext C ((⟨w', C.RO, C.si, C.φ, C.ν⟩ : Ctx).with d b' (C.φ d) v) ∧ CInv O ((⟨w', C.RO, C.si, C.φ, C.ν⟩ : Ctx).with d b' (C.φ d) v) := by
  have hC : ∀ (D : Ctx), D = (⟨w', C.RO, C.si, C.φ, C.ν⟩ : Ctx).with d b' (C.φ d) v → D.w = w' ∧ D.RO = C.RO ∧ D.φ = C.φ ∧ (∀ x, x ≠ d → D.ν x = C.ν x) ∧ D.ν d = v ∧ D.si = (d, b') :: C.si := by
    rintro D rfl
    refine ⟨rfl, rfl, ?_, fun x h => by simp [Ctx.with, h], by simp [Ctx.with], rfl⟩
    funext x
    simp only [Ctx.with]
    split
    · rename_i e; rw [e]
    · rfl
  generalize hDD : (⟨w', C.RO, C.si, C.φ, C.ν⟩ : Ctx).with d b' (C.φ d) v = D at hs hn ⊢
  obtain ⟨dw, dr, dφ, dν, dv, dsi⟩ := hC D hDD.symm
  have lk : ∀ d1, d1 ≠ d → look D.si d1 = look C.si d1 := fun d1 h => by rw [dsi, look_cons, if_neg (fun e => h e.symm)]
  have lk' : look D.si d = some b' := by rw [dsi, look_cons, if_pos rfl]
  have same : ∀ d1 b1, d1 ≠ d → blkOf D d1 b1 = blkOf C d1 b1 := fun d1 b1 h => by cases b1 <;> simp [blkOf, dφ, dν d1 h]
  have far : ∀ d1 b1 k, d1 ≠ d → look C.si d1 = some b1 → blkOf C d1 b1 = some k → some k ≠ row := by
    intro d1 b1 k h h1 hk e
    exact h (hc.wok.sep d1 d b1 b k h1 hd hk (by rw [hrow, e]))
  have he : Ext C D := by
    refine ⟨⟨fun b o h => by rw [dr]; exact h, fun k o u hr hcell => ?_⟩, fun d1 b1 h => ?_⟩
    · rw [dw]
      by_cases hk : row = some k
      · exact hro k o u hk hr hcell
      · rw [cell_of_heap (hg.block k (hc.wok.ro k o hr) (fun e => hk e.symm))]; exact hcell
    · by_cases e : d1 = d
      · subst e
        rw [hd] at h
        injection h with h
        subst h
        exact ⟨b', lk', fun t v' h' => ⟨hcmp.1 t v' h', by rw [dφ]⟩, fun t e g' ex' l' h' => by
          obtain ⟨g, ex, l, h1, h2, h3⟩ := hcmp.2 t e g' ex' l' h'
          exact ⟨g, ex, l, h1, h2, fun hgg => ⟨by rw [dv]; exact (h3 hgg).1, (h3 hgg).2⟩⟩⟩
      · exact ⟨b1, by rw [lk d1 e]; exact h, fun t v' h' => ⟨⟨v', h'⟩, by rw [dφ]⟩, fun t e1 g' ex' l' h' => ⟨g', ex', l', h', Nat.le_refl _, fun _ => ⟨dν d1 e, rfl⟩⟩⟩
  refine ⟨he, ⟨⟨fun d1 b1 h => ?_, fun d1 d2 b1 b2 n h h' hk hk' => ?_, fun b o hr => ?_⟩, by rw [dw, hg.os, hc.os], by rw [dw, hg.tape, hc.tape], by rw [dw, hg.output, hc.output], by rw [dw]; exact Nat.le_trans hc.grow hg.size, fun k hlt hnb => ?_, hc.keep0.trans he.keep, fun b o hr => by rw [dr] at hr; exact hc.roNew b o hr, fun d1 b1 n h hk => ?_, fun j t u hj h => ?_⟩⟩
  · by_cases e : d1 = d
    · subst e
      rw [lk'] at h
      injection h with h
      subst h
      exact hs D rfl he
    · rw [lk d1 e] at h
      have hs1 := hc.wok.site d1 b1 h
      cases b1 with
      | box t u =>
        obtain ⟨hf, c, e1, h3, h4, h5⟩ := hs1
        refine ⟨hf, c, e1, ?_, h4.ext he, by rw [dφ, dr]; exact h5⟩
        rw [dw, dφ, hg.block (C.φ d1) (Array.getElem?_eq_some_iff.1 h3).1 (far d1 _ _ e h rfl)]
        exact h3
      | sl t e1 g ex l =>
        obtain ⟨hz, hl, hf, vs, h3, h4, h5⟩ := hs1
        refine ⟨hz, hl, hf, vs, ?_, h4.keep he.keep, by rw [dν d1 e, dr]; exact h5⟩
        rw [dw, dν d1 e]
        exact h3.kept hg (fun k hk => far d1 _ k e h hk)
      | dead => trivial
  · have key : ∀ d1 b1 n, d1 ≠ d → look C.si d1 = some b1 → blkOf C d1 b1 = some n → blkOf D d b' = some n → False := by
      intro d1 b1 n e h1 h2 h3
      rcases hn n h3 with h4 | h4
      · exact far d1 b1 n e h1 h2 h4.symm
      · have := blk_lt hc.wok h1 h2
        omega
    by_cases e1 : d1 = d
    · by_cases e2 : d2 = d
      · rw [e1, e2]
      · subst e1
        rw [lk'] at h
        injection h with h
        subst h
        rw [lk d2 e2] at h'
        rw [same d2 b2 e2] at hk'
        exact (key d2 b2 n e2 h' hk' hk).elim
    · rw [lk d1 e1] at h
      rw [same d1 b1 e1] at hk
      by_cases e2 : d2 = d
      · subst e2
        rw [lk'] at h'
        injection h' with h'
        subst h'
        exact (key d1 b1 n e1 h hk hk').elim
      · rw [lk d2 e2] at h'
        rw [same d2 b2 e2] at hk'
        exact hc.wok.sep d1 d2 b1 b2 n h h' hk hk'
  · rw [dr] at hr
    rw [dw]
    exact Nat.lt_of_lt_of_le (hc.wok.ro b o hr) hg.size
  · rw [dw]
    by_cases hk : row = some k
    · rcases hc.mine d b k hd (by rw [hrow, hk]) with h1 | ⟨h1, _⟩
      · omega
      · exact absurd h1 hnb
    · rw [hg.block k (Nat.lt_of_lt_of_le hlt hc.grow) (fun e => hk e.symm)]
      exact hc.old k hlt hnb
  · by_cases e1 : d1 = d
    · subst e1
      rw [lk'] at h
      injection h with h
      subst h
      rcases hn n hk with h1 | h1
      · rcases hc.mine d1 b n hd (by rw [hrow, h1]) with h2 | ⟨h2, h3, h4, t, w, h5⟩
        · exact .inl h2
        · subst h5
          refine .inr ⟨h2, h3, h4, ?_⟩
          cases b' with
          | box t' v' => exact ⟨t', v', rfl⟩
          | sl t' e' g' ex' l' =>
            obtain ⟨_, _, _, h6, _⟩ := hcmp.2 _ _ _ _ _ rfl
            cases h6
          | dead => simp [blkOf] at hk
      · exact .inl (Nat.le_trans hc.grow h1)
    · rw [lk d1 e1] at h
      rw [same d1 b1 e1] at hk
      exact hc.mine d1 b1 n h hk
  · by_cases e1 : 1000 + j = d
    · subst e1
      rw [lk'] at h
      injection h with h
      obtain ⟨v0, h1⟩ := hcmp.1 _ _ h
      subst h1
      obtain ⟨h3, h4, h5⟩ := hc.held j t v0 hj hd
      exact ⟨h3, h4, by rw [dφ]; exact h5⟩
    · rw [lk _ e1] at h
      obtain ⟨h3, h4, h5⟩ := hc.held j t u hj h
      exact ⟨h3, h4, by rw [dφ]; exact h5⟩
end Go.Proofs.Cdm
