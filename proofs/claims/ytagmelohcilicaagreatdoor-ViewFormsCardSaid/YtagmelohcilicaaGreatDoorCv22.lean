/-
The orders that the machine may draw.
-/
import Derived.Test.YtagmelohcilicaaGreatDoorCv21
namespace Go.Proofs.Cdm
open Go Go.RowKit
variable {E : Env} {O : Old} {st : St} {a : Act} {C : Ctx}

theorem foldl_push {α β : Type} (f : Array β → α → β) : ∀ (L : List α) (acc : Array β), (L.foldl (fun acc o => acc.push (f acc o)) acc).size = acc.size + L.length ∧ (∀ k, k < acc.size → (L.foldl (fun acc o => acc.push (f acc o)) acc)[k]? = acc[k]?) ∧
    ∀ (j : Nat) (o : α), L[j]? = some o → ∃ acc' : Array β, acc'.size = acc.size + j ∧ (∀ k, k < acc.size + j → (L.foldl (fun acc o => acc.push (f acc o)) acc)[k]? = acc'[k]?) ∧ (L.foldl (fun acc o => acc.push (f acc o)) acc)[acc.size + j]? = some (f acc' o)
  | [], acc => ⟨by simp, fun k _ => rfl, fun j o h => by simp at h⟩
  | x :: L, acc => by
    obtain ⟨h1, h2, h3⟩ := foldl_push f L (acc.push (f acc x))
    simp only [List.foldl_cons]
    refine ⟨by rw [h1]; simp; omega, fun k hk => ?_, fun j o hj => ?_⟩
    · rw [h2 k (by simp; omega), Array.getElem?_push, if_neg (by omega)]
    · cases j with
      | zero =>
        simp at hj
        subst hj
        refine ⟨acc, rfl, fun k hk => ?_, ?_⟩
        · rw [h2 k (by simp; omega), Array.getElem?_push, if_neg (by omega)]
        · rw [Nat.add_zero, h2 _ (by simp), Array.getElem?_push, if_pos rfl]
      | succ j =>
        obtain ⟨acc', h4, h5, h6⟩ := h3 j o (by simpa using hj)
        refine ⟨acc', by rw [h4]; simp; omega, fun k hk => h5 k (by simp; omega), ?_⟩
        rw [← h6]
        congr 1
        simp
        omega
theorem orBits {α : Type} (p : α → Bool) (v : α → Nat) : ∀ (l : List α) (s y : Nat), (l.foldl (fun s e => if p e then s ||| v e else s) s).testBit y = true → s.testBit y = true ∨ ∃ e ∈ l, p e = true ∧ (v e).testBit y = true
  | [], s, y, h => .inl h
  | e :: l, s, y, h => by
    rw [List.foldl_cons] at h
    rcases orBits p v l _ y h with h1 | ⟨e', h1, h2, h3⟩
    · cases hp : p e with
      | true =>
        rw [hp] at h1
        simp only [if_true, Nat.testBit_or, Bool.or_eq_true] at h1
        rcases h1 with h1 | h1
        · exact .inl h1
        · exact .inr ⟨e, by simp, hp, h1⟩
      | false => rw [hp] at h1; exact .inl h1
    · exact .inr ⟨e', by simp [h1], h2, h3⟩
theorem before_bits {ops : Array Oper} {i y : Nat} {o : Oper} (ho : ops[i]? = some o) (he : ∀ e ∈ o.after, Region.binds .any e = true → e.on < i) (h : ((Region.before ops).getD i 0).testBit y = true) :
    ∃ e ∈ o.after, Region.binds .any e = true ∧ (y = e.on ∨ ((Region.before ops).getD e.on 0).testBit y = true) := by
  have hL : ops.toList[i]? = some o := by simpa using ho
  have hb : Region.before ops = ops.toList.foldl (fun acc o => acc.push (o.after.foldl (fun s e => if Region.binds .any e then s ||| 2 ^ e.on ||| acc.getD e.on 0 else s) 0)) #[] := by
    unfold Region.before
    rw [← Array.foldl_toList]
  obtain ⟨_, _, h3⟩ := foldl_push (fun (acc : Array Nat) (o : Oper) => o.after.foldl (fun s e => if Region.binds .any e then s ||| 2 ^ e.on ||| acc.getD e.on 0 else s) 0) ops.toList #[]
  obtain ⟨acc', h4, h5, h6⟩ := h3 i o hL
  rw [← hb] at h5 h6
  simp only [Array.size_empty, Nat.zero_add] at h4 h5 h6
  have e1 : (Region.before ops).getD i 0 = o.after.foldl (fun s e => if Region.binds .any e then s ||| 2 ^ e.on ||| acc'.getD e.on 0 else s) 0 := by
    rw [Array.getD_eq_getD_getElem?, h6]
    rfl
  rw [e1, ← Array.foldl_toList] at h
  have e2 : o.after.toList.foldl (fun s e => if Region.binds .any e then s ||| 2 ^ e.on ||| acc'.getD e.on 0 else s) 0 = o.after.toList.foldl (fun s e => if Region.binds .any e then s ||| (2 ^ e.on ||| acc'.getD e.on 0) else s) 0 := by
    congr 1
    funext s e
    rw [Nat.or_assoc]
  rw [e2] at h
  rcases orBits (fun e => Region.binds .any e) (fun e => 2 ^ e.on ||| acc'.getD e.on 0) _ _ _ h with h7 | ⟨e, h7, h8, h9⟩
  · simp at h7
  · refine ⟨e, by simpa using h7, h8, ?_⟩
    simp only [Nat.testBit_or, Bool.or_eq_true, Nat.testBit_two_pow, decide_eq_true_eq] at h9
    rcases h9 with h9 | h9
    · exact .inl h9.symm
    · refine .inr ?_
      have := he e (by simpa using h7) h8
      rw [Array.getD_eq_getD_getElem?, h5 e.on this, ← Array.getD_eq_getD_getElem?]
      exact h9

/-- Whatever stands behind something in an order is not before it. -/
def Keeps (ops : Array Oper) (l : List Nat) : Prop := ∀ (A : List Nat) (x : Nat) (B : List Nat), l = A ++ x :: B → ∀ y, ((Region.before ops).getD x 0).testBit y = true → y ∈ A
theorem Keeps.snoc {ops : Array Oper} {l : List Nat} {i : Nat} (h : Keeps ops l) (hi : ∀ y, ((Region.before ops).getD i 0).testBit y = true → y ∈ l) : Keeps ops (l ++ [i]) := by
  intro A x B e y hy
  rcases List.eq_nil_or_concat B with rfl | ⟨B', b, rfl⟩
  · have e' : l ++ [i] = A ++ [x] := e
    have := List.append_inj' e' rfl
    obtain ⟨rfl, h2⟩ := this
    injection h2 with h2
    subst h2
    exact hi y hy
  · have e' : l ++ [i] = (A ++ x :: B') ++ [b] := by rw [e]; simp
    have := (List.append_inj' e' rfl).1
    exact h A x B' this y hy
theorem edgesOk_at {ops : Array Oper} (h : edgesOk ops = true) {i : Nat} {o : Oper} (ho : ops[i]? = some o) : ∀ e ∈ o.after, Region.binds .any e = true → e.on < i := by
  intro e he hb
  have hi := (Array.getElem?_eq_some_iff.1 ho).1
  have := List.all_eq_true.1 h i (List.mem_range.2 hi)
  rw [ho] at this
  simp only [Array.all_eq_true_iff_forall_mem] at this
  have h2 := this e he
  rw [hb] at h2
  exact blt_iff.1 (by simpa using h2)
theorem go_spec {ops : Array Oper} (hE : edgesOk ops = true) : ∀ (fuel t : Nat) (listed : Array Bool) (acc : List Nat), listed.size = ops.size → (∀ i, i < ops.size → (listed[i]? = some true ↔ i ∈ acc)) → (∀ i ∈ acc, i < ops.size) → acc.Nodup → Keeps ops acc.reverse → acc.length + fuel = ops.size →
    ∃ l, Region.linearise.go .any ops fuel t listed acc = l ∧ l.Nodup ∧ (∀ i ∈ l, i < ops.size) ∧ Keeps ops l ∧ l.length = ops.size := by
  intro fuel
  induction fuel with
  | zero =>
    intro t listed acc _ _ h3 h4 h5 h6
    exact ⟨acc.reverse, rfl, (List.reverse_perm acc).symm.nodup h4, fun i hi => h3 i (by simpa using hi), h5, by simpa using h6⟩
  | succ fuel ih =>
    intro t listed acc h1 h2 h3 h4 h5 h6
    unfold Region.linearise.go
    simp only
    generalize hrs : (List.range ops.size).filter (fun i => !listed.getD i true && ((ops[i]?).map (·.after.all fun e => !Region.binds .any e || listed.getD e.on false)).getD false) = rs
    have mem : ∀ i, i ∈ rs ↔ i < ops.size ∧ i ∉ acc ∧ ∃ o, ops[i]? = some o ∧ ∀ e ∈ o.after, Region.binds .any e = true → e.on ∈ acc := by
      intro i
      rw [← hrs, List.mem_filter, List.mem_range]
      constructor
      · rintro ⟨hi, h⟩
        rw [Bool.and_eq_true] at h
        have hl : listed[i]? = some false := by
          have := h.1
          rw [Array.getD_eq_getD_getElem?, Array.getElem?_eq_getElem (by omega)] at this
          simp only [Option.getD_some, Bool.not_eq_true'] at this
          rw [Array.getElem?_eq_getElem (by omega), this]
        refine ⟨hi, fun hm => ?_, ops[i], Array.getElem?_eq_getElem hi, fun e he hb => ?_⟩
        · rw [(h2 i hi).2 hm] at hl; cases hl
        · have h7 := h.2
          rw [Array.getElem?_eq_getElem hi] at h7
          simp only [Option.map_some, Option.getD_some, Array.all_eq_true_iff_forall_mem] at h7
          have h8 := h7 e he
          rw [hb] at h8
          simp only [Bool.not_true, Bool.false_or] at h8
          have hlt := edgesOk_at hE (Array.getElem?_eq_getElem hi) e he hb
          rw [Array.getD_eq_getD_getElem?, Array.getElem?_eq_getElem (by omega)] at h8
          simp only [Option.getD_some] at h8
          exact (h2 e.on (by omega)).1 (by rw [Array.getElem?_eq_getElem (by omega), h8])
      · rintro ⟨hi, hm, o, ho, h⟩
        refine ⟨hi, ?_⟩
        rw [Bool.and_eq_true]
        constructor
        · rw [Array.getD_eq_getD_getElem?]
          cases hl : listed[i]? with
          | none => rw [Array.getElem?_eq_none_iff] at hl; omega
          | some b =>
            cases b with
            | false => rfl
            | true => exact absurd ((h2 i hi).1 hl) hm
        · rw [ho]
          simp only [Option.map_some, Option.getD_some, Array.all_eq_true_iff_forall_mem]
          intro e he
          cases hb : Region.binds .any e with
          | false => rfl
          | true =>
            have := h e he hb
            have hlt := edgesOk_at hE ho e he hb
            rw [Array.getD_eq_getD_getElem?, (h2 e.on (by omega)).2 this]
            rfl
    -- there is one
    have ne : rs ≠ [] := by
      have hex : ∃ i, i < ops.size ∧ i ∉ acc := by
        refine Classical.byContradiction fun hno => ?_
        have hsub : List.range ops.size ⊆ acc := fun i hi => by
          refine Classical.byContradiction fun hn => hno ⟨i, List.mem_range.1 hi, hn⟩
        have := List.Nodup.length_le_of_subset List.nodup_range hsub
        rw [List.length_range] at this
        omega
      have hmin : ∀ n, (∃ i, i ≤ n ∧ i < ops.size ∧ i ∉ acc) → ∃ i, i < ops.size ∧ i ∉ acc ∧ ∀ j, j < i → j ∈ acc := by
        intro n
        induction n with
        | zero => rintro ⟨i, hi, h7, h8⟩; exact ⟨i, h7, h8, fun j hj => by omega⟩
        | succ n ihn =>
          rintro ⟨i, hi, h7, h8⟩
          by_cases hp : ∃ j, j ≤ n ∧ j < ops.size ∧ j ∉ acc
          · exact ihn hp
          · refine ⟨i, h7, h8, fun j hj => Classical.byContradiction fun hn => hp ⟨j, by omega, by omega, hn⟩⟩
      obtain ⟨i, h7, h8⟩ := hex
      obtain ⟨i, h9, h10, h11⟩ := hmin i ⟨i, Nat.le_refl _, h7, h8⟩
      intro e
      have : i ∈ rs := (mem i).2 ⟨h9, h10, ops[i], Array.getElem?_eq_getElem h9, fun e he hb => h11 _ (edgesOk_at hE (Array.getElem?_eq_getElem h9) e he hb)⟩
      rw [e] at this
      simp at this
    have hpos : 0 < rs.length := List.length_pos_iff.2 ne
    have hlt : t % rs.length < rs.length := Nat.mod_lt _ hpos
    rw [List.getElem?_eq_getElem hlt]
    simp only
    generalize hi0 : rs[t % rs.length] = i
    have him : i ∈ rs := by rw [← hi0]; exact List.getElem_mem hlt
    obtain ⟨g1, g2, o, g3, g4⟩ := (mem i).1 him
    refine ih _ _ _ (by simp [h1]) (fun j hj => ?_) (fun j hj => ?_) ?_ ?_ (by simp; omega)
    · rw [Array.getElem?_setIfInBounds]
      by_cases e : i = j
      · subst e
        rw [if_pos rfl, if_pos (by omega)]
        simp
      · rw [if_neg e, h2 j hj]
        simp only [List.mem_cons]
        constructor
        · exact .inr
        · rintro (h | h)
          · exact absurd h.symm e
          · exact h
    · rcases List.mem_cons.1 hj with rfl | hj
      · exact g1
      · exact h3 j hj
    · rw [List.nodup_cons]; exact ⟨g2, h4⟩
    · rw [List.reverse_cons]
      refine h5.snoc fun y hy => ?_
      obtain ⟨e, he, hb, hy2⟩ := before_bits g3 (edgesOk_at hE g3) hy
      have hin := g4 e he hb
      rcases hy2 with rfl | hy2
      · simpa using hin
      · have hin' : e.on ∈ acc.reverse := by simpa using hin
        obtain ⟨A, B, hAB⟩ := List.append_of_mem hin'
        have := h5 A e.on B hAB y hy2
        rw [hAB]
        simp [this]
theorem linearise_spec {ops : Array Oper} (hE : edgesOk ops = true) (t : Nat) : (Region.linearise .any ops t).Perm (List.range ops.size) ∧ Keeps ops (Region.linearise .any ops t) := by
  obtain ⟨l, h1, h2, h3, h4, h5⟩ := go_spec hE ops.size t (Array.replicate ops.size false) [] (by simp) (fun i hi => by simp [hi]) (by simp) (by simp) (fun A x B e => by simp at e) (by simp)
  have e : Region.linearise .any ops t = l := h1
  rw [e]
  refine ⟨(List.perm_ext_iff_of_nodup h2 List.nodup_range).2 fun x => ⟨fun hx => List.mem_range.2 (h3 x hx), fun hx => ?_⟩, h4⟩
  refine Classical.byContradiction fun hn => ?_
  have := List.Nodup.length_le_of_subset (l₁ := x :: l) (l₂ := List.range ops.size) (by rw [List.nodup_cons]; exact ⟨hn, h2⟩) (fun y hy => by
    rcases List.mem_cons.1 hy with rfl | hy
    · exact hx
    · exact List.mem_range.2 (h3 y hy))
  simp at this
  omega

theorem apart_spec {before : Array Nat} {i : Nat} {f : Foot} : ∀ {fs : List Foot} {j : Nat}, apart before i f j fs = true → ∀ (k : Nat) (g : Foot), fs[k]? = some g → (before.getD (j + k) 0).testBit i = true ∨ Apart f g
  | [], j, _, k, g, hk => by simp at hk
  | g :: r, j, h, k, g', hk => by
    simp only [apart, Bool.and_eq_true, Bool.or_eq_true, Bool.not_eq_true', Bool.or_eq_false_iff] at h
    cases k with
    | zero =>
      simp at hk
      subst hk
      rcases h.1 with h1 | ⟨⟨h1, h2⟩, h3⟩
      · exact .inl (by simpa using h1)
      · exact .inr ⟨h1, h2, h3⟩
    | succ k =>
      have := apart_spec h.2 k g' (by simpa using hk)
      rwa [show j + 1 + k = j + (k + 1) by omega] at this
theorem allApart_spec {before : Array Nat} : ∀ {fs : List Foot} {i : Nat}, allApart before i fs = true → ∀ (j k : Nat) (f g : Foot), j < k → fs[j]? = some f → fs[k]? = some g → (before.getD (i + k) 0).testBit (i + j) = true ∨ Apart f g
  | [], i, _, j, k, f, g, _, hj, _ => by simp at hj
  | f0 :: r, i, h, j, k, f, g, hjk, hj, hk => by
    simp only [allApart, Bool.and_eq_true] at h
    cases k with
    | zero => omega
    | succ k =>
      cases j with
      | zero =>
        simp at hj
        subst hj
        have := apart_spec h.1 k g (by simpa using hk)
        rwa [show i + 1 + k = i + (k + 1) by omega] at this
      | succ j =>
        have := allApart_spec h.2 j k f g (by omega) (by simpa using hj) (by simpa using hk)
        rwa [show i + 1 + k = i + (k + 1) by omega, show i + 1 + j = i + (j + 1) by omega] at this

/-- A region, whole. -/
theorem region_wp {R : Type} {X : Orc} {ops : Array Oper} {id : Nat} {draw : Bool} {r : R} {K : Ex → St → Option R} (hE : EnvOk E) (hX : CallsOk E X) (hG : GlobOk E.P O.w0 O.RO0) (hO : O.n ≤ 1000) (hi : Inv O st a C) {f : FuncId} {h : Ann} (hden : den E X O.n f (.region id ops draw) h K st = some r) :
    ∃ st', K .normal st' = some r ∧ ∀ Q : Exit → Act → World → Prop, (∀ a' C', Inv O st' a' C' → Q .normal a' C'.w) → (Code.region id ops draw).wp E.P Q a C.w := by
  simp only [den] at hden
  obtain ⟨F, st', h1, h2⟩ := runOps_runs X O.n ops _ _ _ _ List.nodup_range hden
  simp only [List.nil_append] at h2
  cases draw with
  | false =>
    simp only [Bool.not_false, Bool.true_or, cond_true] at h2
    exact ⟨st', h2, fun Q hk => wp_region (runs_wp hE hX hG hO _ _ _ _ _ hi h1 hk)⟩
  | true =>
    simp only [Bool.not_true, Bool.false_or] at h2
    cases hc : (edgesOk ops && allApart (Region.before ops) 0 ((List.range ops.size).map F)) with
    | false => rw [hc] at h2; cases h2
    | true =>
      rw [hc] at h2
      rw [Bool.and_eq_true] at hc
      refine ⟨st', h2, fun Q hk => wp_region_draw fun t => ?_⟩
      have e : Region.schedule (E.P.follows .mixedOrders) ops t = Region.linearise .any ops t := by
        unfold Region.schedule
        rw [hE.mixed]
        rfl
      rw [e]
      obtain ⟨hp, hkeep⟩ := linearise_spec hc.1 t
      have hw : (Region.linearise .any ops t).Pairwise (fun x y => y < x → Apart (F y) (F x)) := by
        rw [List.pairwise_iff_getElem]
        intro i j hi' hj hij hlt
        have hx : (Region.linearise .any ops t)[i] < ops.size := List.mem_range.1 (hp.mem_iff.1 (List.getElem_mem hi'))
        have hFx : ∀ z, z < ops.size → ((List.range ops.size).map F)[z]? = some (F z) := fun z hz => by simp [hz]
        rcases allApart_spec hc.2 _ _ _ _ hlt (hFx _ (by omega)) (hFx _ hx) with h3 | h3
        · rw [Nat.zero_add, Nat.zero_add] at h3
          have hsplit : Region.linearise .any ops t = (Region.linearise .any ops t).take i ++ (Region.linearise .any ops t)[i] :: (Region.linearise .any ops t).drop (i + 1) := by
            rw [← List.drop_eq_getElem_cons hi', List.take_append_drop]
          have h4 := hkeep _ _ _ hsplit _ h3
          -- twice in one order
          obtain ⟨k, hk1, hk2⟩ := List.mem_iff_getElem.1 h4
          simp only [List.length_take] at hk1
          rw [List.getElem_take] at hk2
          have hnd : (Region.linearise .any ops t).Nodup := hp.symm.nodup List.nodup_range
          exact absurd hk2 (List.pairwise_iff_getElem.1 hnd k j (by omega) hj (by omega))
        · exact h3
      obtain ⟨st2, h5, h6⟩ := Runs.perm (stepD_local X O.n ops) List.pairwise_lt_range hp hw h1
      have hdr : Below C.w.heap.size C.w { C.w with drawn := C.w.drawn + 1 } := ⟨rfl, rfl, rfl, Nat.le_refl _, fun i _ => rfl⟩
      obtain ⟨he, hc'⟩ := grow0 hi.c hdr C.RO (fun _ _ h => h) (fun _ _ h => .inl h)
      have hi2 : Inv O st a ⟨{ C.w with drawn := C.w.drawn + 1 }, C.RO, C.si, C.φ, C.ν⟩ := ⟨hi.si, fun t v hv => (hi.tm t v hv).ext he, hi.size, hi.defers, hc'⟩
      refine runs_wp hE hX hG hO _ st st2 a _ hi2 h5 fun a' C' hi' => ?_
      obtain ⟨C2, e2, hi3⟩ := hi'.sim h6.symm
      rw [← e2]
      exact hk a' C2 hi3
end Go.Proofs.Cdm
