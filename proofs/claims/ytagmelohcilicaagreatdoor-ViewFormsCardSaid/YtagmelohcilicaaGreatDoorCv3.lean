/-
When a machine's frame and memory stand for the abstract machine's.
-/
import Derived.Test.YtagmelohcilicaaGreatDoorCv2
namespace Go.Proofs.Cdm
open Go

theorem look_nil {α : Type} (k : Nat) : look ([] : List (Nat × α)) k = none := rfl
theorem look_cons {α : Type} (x : Nat × α) (r : List (Nat × α)) (k : Nat) : look (x :: r) k = if x.1 = k then some x.2 else look r k := by
  simp only [look]
  by_cases h : x.1 = k
  · rw [if_pos h, h, Nat.beq_refl]; rfl
  · rw [if_neg h]
    have : Nat.beq x.1 k = false := by simpa [← Nat.beq_eq] using h
    rw [this]; rfl
theorem look_append {α : Type} (l r : List (Nat × α)) (k : Nat) : look (l ++ r) k = (look l k).or (look r k) := by
  induction l with
  | nil => simp [look_nil]
  | cons x l ih =>
    rw [List.cons_append, look_cons, look_cons, ih]
    split <;> simp

structure Ctx where
  w : World
  RO : Nat → Nat → Prop
  si : List (Nat × Blk)
  φ : Nat → Nat
  ν : Nat → Value

def AV.agg : AV → Bool
  | .ro t _ => t.isAgg
  | .unit | .pair _ _ => true
  | _ => false

/-- Cells stand for a value of the frame. 'true': values, one a link of a chain. -/
def RCm (C : Ctx) : Bool → AV → List Value → Prop
  | false, .ro t x, vs => RepT C.w C.RO t x vs
  | false, .nils _, vs => ∃ a, plainA a = true ∧ vs = [.slice a 0 0]
  | false, .own d g, vs => ∃ v, vs = [v] ∧ (v.cells = #[v] ∧ v.oneCell' = true) ∧ (∃ b, look C.si d = some b) ∧
      ∀ t e g' ex l, look C.si d = some (.sl t e g' ex l) → g ≤ g' ∧ (g = g' → v = C.ν d)
  | false, .ptr d p u, vs => ∃ a, vs = [.pointer (some a)] ∧ (∃ b, look C.si d = some b) ∧
      ∀ t w, look C.si d = some (.box t w) → ∃ off, offT p t = some (off, u) ∧ a = ⟨C.φ d, off, none⟩
  | false, .pel d g i p u, vs => ∃ a, vs = [.pointer (some a)] ∧ (∃ b, look C.si d = some b) ∧
      ∀ t e g' ex l, look C.si d = some (.sl t e g' ex l) → g ≤ g' ∧ (g = g' → i < l.length ∧ ∃ off b c, offT p t = some (off, u) ∧
        C.ν d = .slice (some ⟨b, 0, none⟩) l.length c ∧ a = ⟨b, i * t.size + off, none⟩)
  | false, .rpt t x, vs => ∃ b o us, vs = [.pointer (some ⟨b, o, none⟩)] ∧ RepT C.w C.RO t x us ∧
      ∀ j v, us[j]? = some v → C.w.cell? ⟨b, o + j, none⟩ = some v ∧ C.RO b (o + j)
  | false, .unit, vs => vs = []
  | false, .pair a b, vs => ∃ u t, vs = u ++ t ∧ RCm C false a u ∧ RCm C false b t
  | false, .tup a, vs => ∃ us, vs = [.tuple us.toArray] ∧ RCm C true a us
  | false, .fn f a b, vs => ∃ us ts, vs = [.func (.func f) us.toArray ts.toArray] ∧ RCm C true a us ∧ RCm C true b ts
  | false, .ipt t d, vs => ∃ a, vs = [.iface t (.pointer (some a))] ∧ (∃ b, look C.si d = some b) ∧
      ∀ u w, look C.si d = some (.box u w) → a = ⟨C.φ d, 0, none⟩
  | false, .nilp, vs => ∃ v, vs = [v] ∧ v.cells = #[v] ∧ v.oneCell' = true
  | false, .undef, _ => False
  | true, .unit, vs => vs = []
  | true, .pair a b, vs => ∃ v us, vs = v :: us ∧ (match a with | .undef => True | _ => ∃ cs, RCm C false a cs ∧ v = pack a.agg cs) ∧ RCm C true b us
  | true, _, _ => False
abbrev RC (C : Ctx) := RCm C false
/-- A value stands for a value of the frame. -/
def RA (C : Ctx) (v : AV) (val : Value) : Prop := v = .undef ∨ ∃ cs, RC C v cs ∧ val = pack v.agg cs

theorem RCm_pair (C : Ctx) (a b : AV) (vs : List Value) : RCm C true (.pair a b) vs ↔ ∃ v us, vs = v :: us ∧ RA C a v ∧ RCm C true b us := by
  unfold RA
  constructor
  · rintro ⟨v, us, h, h1, h2⟩
    refine ⟨v, us, h, ?_, h2⟩
    cases a <;> first | exact .inl rfl | exact .inr h1
  · rintro ⟨v, us, h, h1, h2⟩
    refine ⟨v, us, h, ?_, h2⟩
    rcases h1 with h1 | h1
    · subst h1; trivial
    · cases a <;> first | trivial | exact h1

structure Ext (C C' : Ctx) : Prop where
  keep : Keep C.w C'.w C.RO C'.RO
  dom : ∀ d b, look C.si d = some b → ∃ b', look C'.si d = some b' ∧
    (∀ t v', b' = .box t v' → (∃ v, b = .box t v) ∧ C'.φ d = C.φ d) ∧
    (∀ t e g' ex' l', b' = .sl t e g' ex' l' → ∃ g ex l, b = .sl t e g ex l ∧ g ≤ g' ∧ (g = g' → C'.ν d = C.ν d ∧ l.length = l'.length))
theorem Ext.refl (C : Ctx) : Ext C C :=
  ⟨Keep.refl _ _, fun d b h => ⟨b, h, fun _ v' h' => ⟨⟨v', h'⟩, rfl⟩, fun _ _ g' ex' l' h' => ⟨g', ex', l', h', Nat.le_refl _, fun _ => ⟨rfl, rfl⟩⟩⟩⟩

theorem Ext.trans {A B C : Ctx} (h : Ext A B) (k : Ext B C) : Ext A C := by
  refine ⟨h.keep.trans k.keep, fun d b hb => ?_⟩
  obtain ⟨b', hb', h1, h2⟩ := h.dom d b hb
  obtain ⟨b'', hb'', h3, h4⟩ := k.dom d b' hb'
  refine ⟨b'', hb'', fun t v e => ?_, fun t e g' ex' l' he => ?_⟩
  · obtain ⟨⟨v', e1⟩, e2⟩ := h3 t v e
    obtain ⟨⟨v'', e3⟩, e4⟩ := h1 t v' e1
    exact ⟨⟨v'', e3⟩, e2.trans e4⟩
  · obtain ⟨g1, ex1, l1, e1, h5, h6⟩ := h4 t e g' ex' l' he
    obtain ⟨g0, ex0, l0, e0, h7, h8⟩ := h2 t e g1 ex1 l1 e1
    exact ⟨g0, ex0, l0, e0, Nat.le_trans h7 h5, fun e => ⟨(h6 (by omega)).1.trans (h8 (by omega)).1, (h8 (by omega)).2.trans (h6 (by omega)).2⟩⟩

theorem RCm.ext {C C' : Ctx} (h : Ext C C') : ∀ (m : Bool) (v : AV) (vs : List Value), RCm C m v vs → RCm C' m v vs := by
  intro m v
  induction v generalizing m with
  | ro t x => cases m; exact fun vs hv => RepT.keep h.keep hv; exact fun _ hv => hv
  | nils t => cases m <;> exact fun _ hv => hv
  | own d g =>
    cases m
    · rintro vs ⟨v, h1, h2, ⟨b, hb⟩, h3⟩
      obtain ⟨b', hb', hx, hy⟩ := h.dom d b hb
      refine ⟨v, h1, h2, ⟨b', hb'⟩, fun t e g' ex l hl => ?_⟩
      rw [hb'] at hl
      injection hl with hl
      obtain ⟨g1, ex1, l1, e1, hg, hn⟩ := hy _ _ _ _ _ hl
      subst e1
      obtain ⟨h4, h5⟩ := h3 _ _ _ _ _ hb
      exact ⟨by omega, fun hgg => by rw [(hn (by omega)).1]; exact h5 (by omega)⟩
    · exact fun _ hv => hv
  | ptr d p u =>
    cases m
    · rintro vs ⟨a, h1, ⟨b, hb⟩, h3⟩
      obtain ⟨b', hb', hx, hy⟩ := h.dom d b hb
      refine ⟨a, h1, ⟨b', hb'⟩, fun t w hl => ?_⟩
      rw [hb'] at hl
      injection hl with hl
      obtain ⟨⟨v, e1⟩, e2⟩ := hx _ _ hl
      subst e1
      obtain ⟨off, h4, h5⟩ := h3 _ _ hb
      exact ⟨off, h4, by rw [e2]; exact h5⟩
    · exact fun _ hv => hv
  | pel d g i p u =>
    cases m
    · rintro vs ⟨a, h1, ⟨b, hb⟩, h3⟩
      obtain ⟨b', hb', hx, hy⟩ := h.dom d b hb
      refine ⟨a, h1, ⟨b', hb'⟩, fun t e g' ex l hl => ?_⟩
      rw [hb'] at hl
      injection hl with hl
      obtain ⟨g1, ex1, l1, e1, hg, hn⟩ := hy _ _ _ _ _ hl
      subst e1
      obtain ⟨h4, h5⟩ := h3 _ _ _ _ _ hb
      refine ⟨by omega, fun hgg => ?_⟩
      obtain ⟨h6, off, b2, c, h7, h8, h9⟩ := h5 (by omega)
      obtain ⟨n1, n2⟩ := hn (by omega)
      exact ⟨by omega, off, b2, c, h7, by rw [n1, ← n2]; exact h8, h9⟩
    · exact fun _ hv => hv
  | rpt t x =>
    cases m
    · rintro vs ⟨b, o, us, h1, h2, h3⟩
      exact ⟨b, o, us, h1, h2.keep h.keep, fun j v hj => ⟨h.keep.cell _ _ _ (h3 j v hj).2 (h3 j v hj).1, h.keep.ro _ _ (h3 j v hj).2⟩⟩
    · exact fun _ hv => hv
  | unit => cases m <;> exact fun _ hv => hv
  | pair a b iha ihb =>
    cases m
    · rintro vs ⟨u, t, h1, h2, h3⟩
      exact ⟨u, t, h1, iha false _ h2, ihb false _ h3⟩
    · intro vs hv
      rw [RCm_pair] at hv ⊢
      obtain ⟨v, us, h1, h2, h3⟩ := hv
      refine ⟨v, us, h1, ?_, ihb true _ h3⟩
      rcases h2 with h2 | ⟨cs, h2, h4⟩
      · exact .inl h2
      · exact .inr ⟨cs, iha false _ h2, h4⟩
  | tup a iha =>
    cases m
    · rintro vs ⟨us, h1, h2⟩
      exact ⟨us, h1, iha true _ h2⟩
    · exact fun _ hv => hv
  | fn f a b iha ihb =>
    cases m
    · rintro vs ⟨us, ts, h1, h2, h3⟩
      exact ⟨us, ts, h1, iha true _ h2, ihb true _ h3⟩
    · exact fun _ hv => hv
  | ipt t d =>
    cases m
    · rintro vs ⟨a, h1, ⟨b, hb⟩, h3⟩
      obtain ⟨b', hb', hx, hy⟩ := h.dom d b hb
      refine ⟨a, h1, ⟨b', hb'⟩, fun u w hl => ?_⟩
      rw [hb'] at hl
      injection hl with hl
      obtain ⟨⟨v, e1⟩, e2⟩ := hx _ _ hl
      subst e1
      rw [e2]
      exact h3 _ _ hb
    · exact fun _ hv => hv
  | nilp => cases m <;> exact fun _ hv => hv
  | undef => cases m <;> exact fun _ hv => hv

theorem RC.ext {C C' : Ctx} (h : Ext C C') {v : AV} {vs : List Value} (hv : RC C v vs) : RC C' v vs := RCm.ext h false v vs hv
theorem RA.ext {C C' : Ctx} (h : Ext C C') {v : AV} {val : Value} (hv : RA C v val) : RA C' v val := by
  rcases hv with hv | ⟨cs, h1, h2⟩
  · exact .inl hv
  · exact .inr ⟨cs, h1.ext h, h2⟩

/-- The block that a slice's cells lie in. -/
def blkV : Value → Option Nat
  | .slice (some a) _ c => if 0 < c then some a.block else none
  | _ => none
/-- A slice that owns its row: it may have no cell at all. -/
def OwnV (w : World) (e : TypeId) (sz : Nat) (v : Value) (n : Nat) (xs : List Value) : Prop :=
  (n = 0 ∧ xs = [] ∧ ∃ a, plainA a = true ∧ v = .slice a 0 0) ∨
  ∃ g cap cur, v = .slice (some ⟨g, 0, none⟩) n cap ∧ 0 < cap ∧ w.heap[g]? = some (.cells cur e (0, 0)) ∧ n ≤ cap ∧ cap ≤ maxLen ∧ cur.size = cap * sz ∧ cur.toList.take (n * sz) = xs
theorem OwnV.length {w : World} {e : TypeId} {sz : Nat} {v : Value} {n : Nat} {xs : List Value} (h : OwnV w e sz v n xs) : xs.length = n * sz := by
  rcases h with ⟨rfl, rfl, _⟩ | ⟨g, cap, cur, _, _, _, hn, _, hs, ht⟩
  · simp
  · rw [← ht, List.length_take, Array.length_toList, hs]
    exact Nat.min_eq_left (Nat.mul_le_mul_right _ hn)
theorem OwnV.kept {w w' : World} {e : TypeId} {sz : Nat} {v : Value} {n : Nat} {xs : List Value} {row : Option Nat} (h : OwnV w e sz v n xs) (hg : w.grownBy w' row) (hne : ∀ k, blkV v = some k → some k ≠ row) : OwnV w' e sz v n xs := by
  rcases h with h | ⟨g, cap, cur, rfl, hc, hb, rest⟩
  · exact .inl h
  · refine .inr ⟨g, cap, cur, rfl, hc, ?_, rest⟩
    rw [hg.block g (Array.getElem?_eq_some_iff.1 hb).1 (hne g (by simp [blkV, hc]))]
    exact hb
theorem OwnV.of {w : World} {base : Nat} {e : TypeId} {sz : Nat} {v : Value} {n : Nat} {xs : List Value} (h : w.ownsRow base e sz v n xs) : OwnV w e sz v n xs := by
  rcases h.2 with ⟨rfl, rfl⟩ | ⟨g, cap, cur, rfl, _, hb, hn, hm, hs, ht⟩
  · have := h.1
    exact .inl ⟨rfl, List.eq_nil_of_length_eq_zero (by simpa using this), none, rfl, rfl⟩
  · rcases Nat.eq_zero_or_pos cap with hc | hc
    · subst hc
      obtain rfl : n = 0 := by omega
      exact .inl ⟨rfl, by rw [← ht]; simp, _, rfl, rfl⟩
    · exact .inr ⟨g, cap, cur, rfl, hc, hb, hn, hm, hs, ht⟩
def LIM : Nat := 140737488355328
def SiteOk (C : Ctx) (d : Nat) : Blk → Prop
  | .box t v => fits v t = true ∧ ∃ c e, C.w.heap[C.φ d]? = some (.cells c e (0, 0)) ∧ RC C v c.toList ∧ ∀ o, ¬ C.RO (C.φ d) o
  | .sl t e _ ex l => 0 < t.size ∧ l.length ≤ LIM ∧ (∀ x ∈ l, wft t x) ∧ ∃ vs, OwnV C.w e t.size (C.ν d) l.length vs ∧ Reps C.w C.RO (l.flatMap (enc t)) vs ∧
      ∀ b o, blkV (C.ν d) = some b → C.RO b o → ex = false ∧ o < l.length * t.size
  | .dead => True
def blkOf (C : Ctx) (d : Nat) : Blk → Option Nat
  | .box _ _ => some (C.φ d)
  | .sl _ _ _ _ _ => blkV (C.ν d)
  | .dead => none

structure WOk (C : Ctx) : Prop where
  site : ∀ d b, look C.si d = some b → SiteOk C d b
  sep : ∀ d d' b b' k, look C.si d = some b → look C.si d' = some b' → blkOf C d b = some k → blkOf C d' b' = some k → d = d'
  ro : ∀ b o, C.RO b o → b < C.w.heap.size

/-- What a call began with. -/
structure Old where
  n : Nat
  w0 : World
  RO0 : Nat → Nat → Prop
  bor : Nat → Prop
  φ0 : Nat → Nat
  tys : List Ty

/-- What holds of memory. -/
structure CInv (O : Old) (C : Ctx) : Prop where
  wok : WOk C
  os : C.w.os = O.w0.os
  tape : C.w.tape = O.w0.tape
  output : C.w.output = O.w0.output
  grow : O.w0.heap.size ≤ C.w.heap.size
  old : ∀ b, b < O.w0.heap.size → ¬ O.bor b → C.w.heap[b]? = O.w0.heap[b]?
  keep0 : Keep O.w0 C.w O.RO0 C.RO
  roNew : ∀ b o, C.RO b o → O.RO0 b o ∨ O.w0.heap.size ≤ b
  mine : ∀ d b k, look C.si d = some b → blkOf C d b = some k → O.w0.heap.size ≤ k ∨ (O.bor k ∧ 1000 ≤ d ∧ d < 10000 ∧ ∃ t v, b = .box t v)
  held : ∀ j t v, j < 9000 → look C.si (1000 + j) = some (.box t v) → j < O.tys.length ∧ O.tys[j]? = some t ∧ C.φ (1000 + j) = O.φ0 (1000 + j)
theorem CInv.roOld {O : Old} {C : Ctx} (h : CInv O C) : ∀ b o, O.RO0 b o → C.RO b o := h.keep0.ro
structure Inv (O : Old) (st : St) (a : Act) (C : Ctx) : Prop where
  si : C.si = st.si
  tm : ∀ t v, look st.tm t = some v → RA C v (a.tmps.getD t undef)
  size : a.tmps.size = O.n
  defers : a.defers = []
  c : CInv O C

theorem look_one {α : Type} (d : Nat) (v : α) (l : List (Nat × α)) (t : Nat) : look ([(d, v)] ++ l) t = if d = t then some v else look l t := look_cons _ _ _
theorem put_size (a : Act) (d : Option Tmp) (v : Value) : (a.put d v).tmps.size = a.tmps.size := by
  cases d <;> simp [Act.put]
theorem put_defers (a : Act) (d : Option Tmp) (v : Value) : (a.put d v).defers = a.defers := by
  cases d <;> rfl
/-- The memory has moved on; one slot is written. -/
theorem Inv.upd1 {O : Old} {st : St} {a : Act} {C C' : Ctx} (h : Inv O st a C) (he : Ext C C') {si : List (Nat × Blk)} (hsi : C'.si = si ++ st.si) (hc : CInv O C')
    {d : Nat} (hd : d < O.n) {v : AV} {val : Value} (hv : RA C' v val) : Inv O (st.upd [(d, v)] si) (a.put (some d) val) C' := by
  refine ⟨hsi, fun t u ht => ?_, by rw [put_size]; exact h.size, h.defers, hc⟩
  have ht' : look ([(d, v)] ++ st.tm) t = some u := ht
  rw [look_one] at ht'
  split at ht'
  · rename_i e
    subst e
    injection ht' with ht'
    subst ht'
    have : (a.put (some d) val).tmps.getD d undef = val := by simp [Act.put, Array.getD, h.size, hd]
    rw [this]
    exact hv
  · rename_i e
    have : (a.put (some d) val).tmps.getD t undef = a.tmps.getD t undef := by
      simp only [Act.put, Array.getD_eq_getD_getElem?]
      rw [Array.getElem?_setIfInBounds_ne e]
    rw [this]
    exact (h.tm t u ht').ext he
theorem Inv.upd0 {O : Old} {st : St} {a : Act} {C C' : Ctx} (h : Inv O st a C) (he : Ext C C') {si : List (Nat × Blk)} (hsi : C'.si = si ++ st.si) (hc : CInv O C') :
    Inv O (st.upd [] si) a C' := ⟨hsi, fun t u ht => (h.tm t u ht).ext he, h.size, h.defers, hc⟩

end Go.Proofs.Cdm
