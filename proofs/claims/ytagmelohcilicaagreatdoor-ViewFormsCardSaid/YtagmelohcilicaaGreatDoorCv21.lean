/-
A region's operations, in every order that is open.
-/
import Derived.Test.YtagmelohcilicaaGreatDoorCv20
namespace Go.Proofs.Cdm
open Go Go.RowKit
variable {E : Env} {O : Old} {st : St} {a : Act} {C : Ctx}

/-! ### Orders -/
theorem upd_t (st : St) (tm : List (Nat × AV)) (si : List (Nat × Blk)) (k : Nat) : (st.upd tm si).t k = match look tm k with | some v => v | none => st.t k := by
  unfold St.t St.upd
  simp only [look_append]
  cases look tm k <;> rfl
theorem upd_s (st : St) (tm : List (Nat × AV)) (si : List (Nat × Blk)) (k : Nat) : (st.upd tm si).s k = match look si k with | some v => some v | none => st.s k := by
  unfold St.s St.upd
  simp only [look_append]
  cases look si k <;> rfl
def Sim (st st' : St) : Prop := ∀ x, agree st st' x
theorem Sim.refl (st : St) : Sim st st := fun x => by cases x <;> rfl
theorem Sim.symm {st st' : St} (h : Sim st st') : Sim st' st := fun x => by have := h x; cases x <;> exact this.symm
theorem Sim.trans {a b c : St} (h : Sim a b) (k : Sim b c) : Sim a c := fun x => by have h1 := h x; have h2 := k x; cases x <;> exact h1.trans h2
abbrev Dl := List (Nat × AV) × List (Nat × Blk)
def Dl.keys (δ : Dl) (w : List Res) : Prop := (∀ t v, look δ.1 t = some v → Res.t t ∈ w) ∧ ∀ d b, look δ.2 d = some b → Res.s d ∈ w
theorem Sim.upd {st st' : St} (h : Sim st st') (δ : Dl) : Sim (st.upd δ.1 δ.2) (st'.upd δ.1 δ.2) := by
  intro x
  cases x with
  | t k => show (st.upd δ.1 δ.2).t k = (st'.upd δ.1 δ.2).t k; rw [upd_t, upd_t]; cases look δ.1 k with | none => exact h (.t k) | some v => rfl
  | s k => show (st.upd δ.1 δ.2).s k = (st'.upd δ.1 δ.2).s k; rw [upd_s, upd_s]; cases look δ.2 k with | none => exact h (.s k) | some v => rfl
theorem agree_upd {st : St} {δ : Dl} {w : List Res} (h : δ.keys w) {x : Res} (hx : x ∉ w) : agree (st.upd δ.1 δ.2) st x := by
  cases x with
  | t k =>
    show (st.upd δ.1 δ.2).t k = st.t k
    rw [upd_t]
    cases hk : look δ.1 k with
    | none => rfl
    | some v => exact absurd (h.1 k v hk) hx
  | s k =>
    show (st.upd δ.1 δ.2).s k = st.s k
    rw [upd_s]
    cases hk : look δ.2 k with
    | none => rfl
    | some v => exact absurd (h.2 k v hk) hx
theorem upd_comm {st : St} {δ ε : Dl} {w v : List Res} (h : δ.keys w) (k : ε.keys v) (hd : ∀ x ∈ w, x ∉ v) : Sim ((st.upd δ.1 δ.2).upd ε.1 ε.2) ((st.upd ε.1 ε.2).upd δ.1 δ.2) := by
  intro x
  cases x with
  | t n =>
    show ((st.upd δ.1 δ.2).upd ε.1 ε.2).t n = ((st.upd ε.1 ε.2).upd δ.1 δ.2).t n
    simp only [upd_t]
    cases h1 : look δ.1 n with
    | none => cases look ε.1 n <;> rfl
    | some v1 =>
      cases h2 : look ε.1 n with
      | none => rfl
      | some v2 => exact absurd (k.1 n v2 h2) (hd _ (h.1 n v1 h1))
  | s n =>
    show ((st.upd δ.1 δ.2).upd ε.1 ε.2).s n = ((st.upd ε.1 ε.2).upd δ.1 δ.2).s n
    simp only [upd_s]
    cases h1 : look δ.2 n with
    | none => cases look ε.2 n <;> rfl
    | some v1 =>
      cases h2 : look ε.2 n with
      | none => rfl
      | some v2 => exact absurd (k.2 n v2 h2) (hd _ (h.2 n v1 h1))
theorem beq_res {x y : Res} : Res.beq x y = true ↔ x = y := by
  cases x <;> cases y <;> simp [Res.beq]
theorem clash_false {a b : List Res} (h : clash a b = false) : ∀ x ∈ a, x ∉ b := by
  intro x hx hy
  unfold clash at h
  rw [List.any_eq_false] at h
  apply h x hx
  rw [List.any_eq_true]
  exact ⟨x, hy, beq_res.2 rfl⟩
def Apart (f g : Foot) : Prop := clash f.w g.w = false ∧ clash f.w g.r = false ∧ clash f.r g.w = false

def Local (step : Nat → St → Option (St × Foot)) : Prop := ∀ i st st1 f, step i st = some (st1, f) → ∃ δ : Dl, st1 = st.upd δ.1 δ.2 ∧ δ.keys f.w ∧ ∀ st', (∀ x ∈ f.r, agree st st' x) → step i st' = some (st'.upd δ.1 δ.2, f)
def Runs (step : Nat → St → Option (St × Foot)) (F : Nat → Foot) : List Nat → St → St → Prop
  | [], st, st' => st' = st
  | i :: l, st, st' => ∃ st1, step i st = some (st1, F i) ∧ Runs step F l st1 st'
variable {step : Nat → St → Option (St × Foot)} {F : Nat → Foot}
theorem Runs.congr (hL : Local step) : ∀ {l : List Nat} {st st' st2 : St}, Sim st st2 → Runs step F l st st' → ∃ st2', Runs step F l st2 st2' ∧ Sim st' st2'
  | [], st, st', st2, h, hr => ⟨st2, rfl, by rw [hr]; exact h⟩
  | i :: l, st, st', st2, h, ⟨st1, h1, h2⟩ => by
    obtain ⟨δ, h3, h4, h5⟩ := hL _ _ _ _ h1
    obtain ⟨t, h6, h7⟩ := Runs.congr hL (st2 := st2.upd δ.1 δ.2) (by rw [h3]; exact h.upd δ) h2
    exact ⟨t, ⟨_, h5 st2 (fun x _ => h x), h6⟩, h7⟩
theorem Runs.append : ∀ {l m : List Nat} {st st' st2 : St}, Runs step F l st st' → Runs step F m st' st2 → Runs step F (l ++ m) st st2
  | [], m, st, st', st2, h, k => by have h : st' = st := h; subst h; exact k
  | i :: l, m, st, st', st2, ⟨st1, h1, h2⟩, k => ⟨st1, h1, h2.append k⟩
theorem Runs.split : ∀ {l m : List Nat} {st st2 : St}, Runs step F (l ++ m) st st2 → ∃ st', Runs step F l st st' ∧ Runs step F m st' st2
  | [], m, st, st2, h => ⟨st, rfl, h⟩
  | i :: l, m, st, st2, ⟨st1, h1, h2⟩ => by
    obtain ⟨st', h3, h4⟩ := Runs.split h2
    exact ⟨st', ⟨st1, h1, h3⟩, h4⟩
theorem Runs.move (hL : Local step) {i : Nat} : ∀ {A : List Nat} {st st' : St}, (∀ x ∈ A, Apart (F i) (F x)) → Runs step F (i :: A) st st' → ∃ st2, Runs step F (A ++ [i]) st st2 ∧ Sim st' st2
  | [], st, st', _, h => ⟨st', h, Sim.refl _⟩
  | b :: A, st, st', hA, ⟨s1, h1, s2, h2, h3⟩ => by
    obtain ⟨hww, hwr, hrw⟩ := hA b (by simp)
    obtain ⟨δ, e1, k1, l1⟩ := hL _ _ _ _ h1
    obtain ⟨ε, e2, k2, l2⟩ := hL _ _ _ _ h2
    have g1 : step b st = some (st.upd ε.1 ε.2, F b) := by
      refine l2 st (fun x hx => ?_)
      rw [e1]
      exact agree_upd k1 (fun hw => clash_false hwr x hw hx)
    have g2 : step i (st.upd ε.1 ε.2) = some ((st.upd ε.1 ε.2).upd δ.1 δ.2, F i) := by
      refine l1 _ (fun x hx => ?_)
      have := agree_upd (st := st) k2 (x := x) (fun hw => clash_false hrw x hx hw)
      cases x <;> exact this.symm
    have hs : Sim s2 ((st.upd ε.1 ε.2).upd δ.1 δ.2) := by
      rw [e2, e1]
      exact upd_comm k1 k2 (fun x hx hy => clash_false hww x hx hy)
    obtain ⟨t, h4, h5⟩ := Runs.congr hL hs h3
    obtain ⟨u, h6, h7⟩ := Runs.move hL (A := A) (st := st.upd ε.1 ε.2) (fun x hx => hA x (by simp [hx])) ⟨_, g2, h4⟩
    exact ⟨u, ⟨_, g1, h6⟩, h5.trans h7⟩
/-- Any order in which what is turned round is apart. -/
theorem Runs.perm (hL : Local step) : ∀ {L L' : List Nat} {st st' : St}, L.Pairwise (· < ·) → L'.Perm L → L'.Pairwise (fun x y => y < x → Apart (F y) (F x)) → Runs step F L st st' → ∃ st2, Runs step F L' st st2 ∧ Sim st' st2
  | [], L', st, st', _, hp, _, h => by
    have := hp.eq_nil
    subst this
    exact ⟨st', h, Sim.refl _⟩
  | i :: L, L', st, st', hs, hp, hw, ⟨s1, h1, h2⟩ => by
    have hi : i ∈ L' := hp.mem_iff.2 (by simp)
    obtain ⟨A, B, rfl⟩ := List.append_of_mem hi
    have hp2 : (A ++ B).Perm L := by
      have h3 : (A ++ i :: B).Perm (i :: (A ++ B)) := List.perm_middle
      exact List.Perm.cons_inv (h3.symm.trans hp)
    rw [List.pairwise_cons] at hs
    rw [List.pairwise_append] at hw
    obtain ⟨w1, w2, w3⟩ := hw
    rw [List.pairwise_cons] at w2
    obtain ⟨t, h4, h5⟩ := Runs.perm hL (L' := A ++ B) hs.2 hp2 (by
      rw [List.pairwise_append]
      exact ⟨w1, w2.2, fun x hx y hy => w3 x hx y (by simp [hy])⟩) h2
    obtain ⟨u, h6, h7⟩ := h4.split
    obtain ⟨u', h8, h9⟩ := Runs.move hL (i := i) (A := A) (st := st) (fun x hx => w3 x hx i (by simp) (hs.1 x (hp2.mem_iff.1 (by simp [hx])))) ⟨s1, h1, h6⟩
    obtain ⟨t', h10, h11⟩ := Runs.congr hL h9 h7
    refine ⟨t', ?_, h5.trans h11⟩
    have := h8.append h10
    simpa using this

/-! ### An operation under its guard -/
def stepD (E : Env) (X : Orc) (n : Nat) (ops : Array Oper) (i : Nat) (st : St) : Option (St × Foot) :=
  (ops[i]?).bind fun o => ((gopQ E ops o).ev st).bind fun p =>
    bif (p.need.all fun d => match st.s d with | none => true | some _ => false) && (match o.dst with | some d => Nat.blt d n | none => true) then
      (p.delta X).map fun x => (st.upd x.1 x.2, ⟨(gopQ E ops o).reads st ++ p.need.map .s, p.writes⟩) else none
theorem runOps_cons {R : Type} (X : Orc) (n : Nat) (ops : Array Oper) (i : Nat) (r : List Nat) (fs : List Foot) (k : St → List Foot → Option R) :
    runOps E X n ops (i :: r) st fs k = (stepD E X n ops i st).bind fun y => runOps E X n ops r y.1 (fs ++ [y.2]) k := by
  simp only [runOps, stepD]
  cases ops[i]? with
  | none => rfl
  | some o =>
    simp only [Option.bind_some]
    rw [Q.run_eq]
    cases hq : (gopQ E ops o).ev st with
    | none => rfl
    | some p =>
      simp only [Option.bind_some, List.nil_append]
      cases hc : ((p.need.all fun d => match st.s d with | none => true | some _ => false) && (match o.dst with | some d => Nat.blt d n | none => true)) with
      | false => rfl
      | true =>
        simp only [cond_true]
        rw [Pend.run_eq]
        cases p.delta X <;> rfl
theorem runOps_runs {R : Type} (X : Orc) (n : Nat) (ops : Array Oper) {r : R} : ∀ (l : List Nat) (st : St) (fs : List Foot) (k : St → List Foot → Option R), l.Nodup → runOps E X n ops l st fs k = some r →
    ∃ F st', Runs (stepD E X n ops) F l st st' ∧ k st' (fs ++ l.map F) = some r
  | [], st, fs, k, _, h => ⟨fun _ => ⟨[], []⟩, st, rfl, by simpa [runOps] using h⟩
  | i :: l, st, fs, k, hn, h => by
    rw [runOps_cons, Option.bind_eq_some_iff] at h
    obtain ⟨⟨st1, f⟩, h1, h2⟩ := h
    rw [List.nodup_cons] at hn
    obtain ⟨F, st', h3, h4⟩ := runOps_runs X n ops l st1 _ k hn.2 h2
    have same : ∀ {m : List Nat} {s s' : St}, i ∉ m → Runs (stepD E X n ops) F m s s' → Runs (stepD E X n ops) (fun j => if j = i then f else F j) m s s' := by
      intro m
      induction m with
      | nil => intro s s' _ h; exact h
      | cons j m ih =>
        rintro s s' hm ⟨s1, h5, h6⟩
        refine ⟨s1, ?_, ih (fun h => hm (by simp [h])) h6⟩
        have e : (fun j => if j = i then f else F j) j = F j := if_neg (fun e => hm (by simp [e]))
        rw [e]
        exact h5
    refine ⟨fun j => if j = i then f else F j, st', ⟨st1, by
      have e : (fun j => if j = i then f else F j) i = f := if_pos rfl
      rw [e]; exact h1, same hn.1 h3⟩, ?_⟩
    rw [← h4]
    congr 1
    rw [List.append_assoc]
    congr 1
    simp only [List.map_cons, if_true, List.singleton_append]
    congr 1
    apply List.map_congr_left
    intro j hj
    rw [if_neg (fun e => hn.1 (by rw [← e]; exact hj))]
theorem stepD_local (X : Orc) (n : Nat) (ops : Array Oper) : Local (stepD E X n ops) := by
  intro i st st1 f h
  unfold stepD at h
  simp only [Option.bind_eq_some_iff] at h
  obtain ⟨o, ho, p, hp, h⟩ := h
  cases hc : ((p.need.all fun d => match st.s d with | none => true | some _ => false) && (match o.dst with | some d => Nat.blt d n | none => true)) with
  | false => rw [hc] at h; cases h
  | true =>
    rw [hc] at h
    simp only [cond_true, Option.map_eq_some_iff] at h
    obtain ⟨δ, hδ, h⟩ := h
    simp only [Prod.mk.injEq] at h
    obtain ⟨rfl, rfl⟩ := h
    refine ⟨δ, rfl, delta_writes hδ, fun st' hag => ?_⟩
    have hl := Q.local_ st st' (gopQ E ops o) (fun x hx => hag x (by simp [hx]))
    have hn : ∀ d ∈ p.need, st.s d = st'.s d := fun d hd => hag (.s d) (by simp only [List.mem_append, List.mem_map]; exact .inr ⟨d, hd, rfl⟩)
    have hall : (p.need.all fun d => match st'.s d with | none => true | some _ => false) = (p.need.all fun d => match st.s d with | none => true | some _ => false) := by
      rw [Bool.eq_iff_iff, List.all_eq_true, List.all_eq_true]
      constructor
      · intro h d hd; rw [hn d hd]; exact h d hd
      · intro h d hd; rw [← hn d hd]; exact h d hd
    unfold stepD
    simp only [ho, Option.bind_some, hl.1, hp, hall, hc, cond_true, hδ, Option.map_some, hl.2]

theorem act_ev {ops : Array Oper} {o : Oper} {p : Pend} {skip act : Q Pend} (h : (((opQ E o).bind fun p => match p with
    | .done [(d, .ro .bool b)] si => bif isGuard ops d then .br b (.pure (.done [(d, .ro .bool true)] si)) (.pure (.done [(d, .ro .bool false)] si)) else .pure (.done [(d, .ro .bool b)] si)
    | p => .pure p : Q Pend)).ev st = some p) : (opQ E o).ev st = some p := by
  rw [Q.bind_ev, Option.bind_eq_some_iff] at h
  obtain ⟨q, h1, h2⟩ := h
  rw [h1, ← h2]
  split
  · rename_i d b si
    cases isGuard ops d <;> cases b <;> rfl
  · rfl
/-- One operation of a region, under its guard. -/
theorem step_wp {X : Orc} {ops : Array Oper} {i : Nat} {st1 : St} {f : Foot} (hE : EnvOk E) (hX : CallsOk E X) (hG : GlobOk E.P O.w0 O.RO0) (hi : Inv O st a C) (hO : O.n ≤ 1000) (h : stepD E X O.n ops i st = some (st1, f)) {rest : List Nat} {Q : Exit → Act → World → Prop}
    (hk : ∀ a' C', Inv O st1 a' C' → wpOps E.P ops Q rest a' C'.w) : wpOps E.P ops Q (i :: rest) a C.w := by
  unfold stepD at h
  simp only [Option.bind_eq_some_iff] at h
  obtain ⟨o, ho, p, hp, h⟩ := h
  cases hc : ((p.need.all fun d => match st.s d with | none => true | some _ => false) && (match o.dst with | some d => Nat.blt d O.n | none => true)) with
  | false => rw [hc] at h; cases h
  | true =>
    rw [hc] at h
    simp only [cond_true, Option.map_eq_some_iff] at h
    obtain ⟨δ, hδ, h⟩ := h
    simp only [Prod.mk.injEq] at h
    obtain ⟨rfl, rfl⟩ := h
    rw [Bool.and_eq_true, List.all_eq_true] at hc
    have hneed : ∀ d ∈ p.need, st.s d = none := by
      intro d hd
      have := hc.1 d hd
      cases hs : st.s d with
      | none => rfl
      | some b => rw [hs] at this; cases this
    have hdst : ∀ d : Nat, o.dst = some d → d < O.n := by
      intro d hd
      have := hc.2
      rw [hd] at this
      exact blt_iff.1 this
    simp only [wpOps, ho]
    have act : (opQ E o).ev st = some p → Region.wanted o (yielded ops a.tmps) = true → (if Region.wanted o (yielded ops a.tmps) = true then o.wp E.P a C.w (wpOps E.P ops Q rest) Q ∨ (o.asks E.P a C.w ∧ LetsOut Q) else wpOps E.P ops Q rest (a.put o.dst undef) C.w) := by
      intro hq hw
      rw [if_pos hw]
      exact .inl (op_wp hE hX hG hi hO hdst hq hδ hneed hk)
    have skip : (gopQ.skip o).ev st = some p → Region.wanted o (yielded ops a.tmps) = false → (if Region.wanted o (yielded ops a.tmps) = true then o.wp E.P a C.w (wpOps E.P ops Q rest) Q ∨ (o.asks E.P a C.w ∧ LetsOut Q) else wpOps E.P ops Q rest (a.put o.dst undef) C.w) := by
      intro hq hw
      rw [if_neg (by rw [hw]; simp)]
      unfold gopQ.skip at hq
      cases hd : o.dst with
      | none =>
        rw [hd] at hq
        simp only [Cdm.Q.ev, Option.some.injEq] at hq
        subst hq
        simp only [Pend.delta, Option.some.injEq] at hδ
        subst hδ
        exact hk a C (hi.upd0 (Ext.refl C) (by simp [hi.si]) hi.c)
      | some d =>
        rw [hd] at hq
        simp only [Cdm.Q.ev, Option.some.injEq] at hq
        subst hq
        simp only [Pend.delta, Option.some.injEq] at hδ
        subst hδ
        exact hk _ C (hi.upd1 (Ext.refl C) (by simp [hi.si]) hi.c (hdst d hd) (.inl rfl))
    unfold gopQ at hp
    simp only at hp
    cases hg : o.guard with
    | none =>
      rw [hg] at hp
      exact act (act_ev (skip := .fail) (act := .fail) hp) (by simp [Region.wanted, hg])
    | some g =>
      obtain ⟨j, want⟩ := g
      rw [hg] at hp
      simp only at hp
      cases hj : (ops[j]?).bind (·.dst) with
      | none => rw [hj] at hp; cases hp
      | some d =>
        rw [hj] at hp
        simp only [Cdm.Q.ev] at hp
        obtain ⟨b, hb, hp⟩ := asBool_ev hp
        have hy : yielded ops a.tmps j = some b := by
          have h1 : RA C (.ro .bool b) (a.tmps.getD d undef) := by
            unfold St.t at hb
            cases hl : look st.tm d with
            | none => rw [hl] at hb; cases hb
            | some v =>
              rw [hl] at hb
              simp only [Option.getD_some] at hb
              subst hb
              exact hi.tm d _ hl
          have h2 := h1.bool
          unfold yielded
          rw [hj]
          simp only [Option.bind_some]
          rw [Array.getD_eq_getD_getElem?] at h2
          cases h3 : a.tmps[d]? with
          | none => rw [h3] at h2; simp [undef] at h2
          | some v => rw [h3] at h2; simp only [Option.getD_some] at h2; rw [h2]
        have hw : Region.wanted o (yielded ops a.tmps) = (b == want) := by
          simp only [Region.wanted, hg, hy]
          cases b <;> cases want <;> rfl
        cases b <;> cases want <;> simp only [Cdm.Q.ev, cond_true, cond_false] at hp
        · exact act (act_ev (skip := .fail) (act := .fail) hp) (by rw [hw]; rfl)
        · exact skip hp (by rw [hw]; rfl)
        · exact skip hp (by rw [hw]; rfl)
        · exact act (act_ev (skip := .fail) (act := .fail) hp) (by rw [hw]; rfl)
/-- A whole order. -/
theorem runs_wp {X : Orc} {ops : Array Oper} (hE : EnvOk E) (hX : CallsOk E X) (hG : GlobOk E.P O.w0 O.RO0) (hO : O.n ≤ 1000) {F : Nat → Foot} {Q : Exit → Act → World → Prop} : ∀ (l : List Nat) (st st' : St) (a : Act) (C : Ctx), Inv O st a C → Runs (stepD E X O.n ops) F l st st' →
    (∀ a' C', Inv O st' a' C' → Q .normal a' C'.w) → wpOps E.P ops Q l a C.w
  | [], st, st', a, C, hi, h, hk => by have h : st' = st := h; subst h; exact hk a C hi
  | i :: l, st, st', a, C, hi, ⟨st1, h1, h2⟩, hk => step_wp hE hX hG hi hO h1 fun a' C' hi' => runs_wp hE hX hG hO l st1 st' a' C' hi' h2 hk
/-- States that are alike stand for the same memory. -/
theorem Inv.sim {st st' : St} (hi : Inv O st a C) (h : Sim st st') : ∃ C', C'.w = C.w ∧ Inv O st' a C' := by
  have lk : ∀ d, look st'.si d = look C.si d := fun d => by rw [hi.si]; exact (h (.s d)).symm
  let C' : Ctx := ⟨C.w, C.RO, st'.si, C.φ, C.ν⟩
  have he : Ext C C' := ⟨Keep.refl _ _, fun d b hb => ⟨b, by show look st'.si d = _; rw [lk, hb], fun t v' h' => ⟨⟨v', h'⟩, rfl⟩, fun t e g' ex' l' h' => ⟨g', ex', l', h', Nat.le_refl _, fun _ => ⟨rfl, rfl⟩⟩⟩⟩
  have bk : ∀ d b, blkOf C' d b = blkOf C d b := fun d b => by cases b <;> rfl
  refine ⟨C', rfl, rfl, fun t v hv => ?_, hi.size, hi.defers, ⟨⟨fun d b hd => ?_, fun d d' b b' k hd hd' hk hk' => ?_, hi.c.wok.ro⟩, hi.c.os, hi.c.tape, hi.c.output, hi.c.grow, hi.c.old, hi.c.keep0, hi.c.roNew, fun d b k hd hk => ?_, fun j t v hj hd => ?_⟩⟩
  · have ht : st.t t = st'.t t := h (.t t)
    unfold St.t at ht
    rw [hv] at ht
    cases hl : look st.tm t with
    | none =>
      rw [hl] at ht
      simp only [Option.getD_none, Option.getD_some] at ht
      exact .inl ht.symm
    | some u =>
      rw [hl] at ht
      simp only [Option.getD_some] at ht
      subst ht
      exact (hi.tm t u hl).ext he
  · have hd : look st'.si d = some b := hd
    rw [lk] at hd
    have hs := hi.c.wok.site d b hd
    cases b with
    | box t v =>
      obtain ⟨hf, c, e, h3, h4, h5⟩ := hs
      exact ⟨hf, c, e, h3, h4.ext he, h5⟩
    | sl t e g ex l => exact hs
    | dead => trivial
  · have hd : look st'.si d = some b := hd
    have hd' : look st'.si d' = some b' := hd'
    rw [lk] at hd hd'
    rw [bk] at hk hk'
    exact hi.c.wok.sep d d' b b' k hd hd' hk hk'
  · have hd : look st'.si d = some b := hd
    rw [lk] at hd
    rw [bk] at hk
    exact hi.c.mine d b k hd hk
  · have hd : look st'.si (1000 + j) = some (.box t v) := hd
    rw [lk] at hd
    exact hi.c.held j t v hj hd
end Go.Proofs.Cdm
