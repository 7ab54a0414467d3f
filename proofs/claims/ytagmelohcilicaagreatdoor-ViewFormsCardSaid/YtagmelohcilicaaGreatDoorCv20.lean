/-
One operation, whole: its guard, what it reads and writes, and what it comes to.
-/
import Derived.Test.YtagmelohcilicaaGreatDoorCv19
namespace Go.Proofs.Cdm
open Go Go.RowKit
variable {E : Env} {O : Old} {st : St} {a : Act} {C : Ctx}

/-! ### What is asked of the frame -/
theorem Q.run_eq {α R : Type} (st : St) : ∀ (q : Q α) (rs : List Res) (k : α → List Res → Option R), q.run st rs k = (q.ev st).bind fun a => k a (rs ++ q.reads st)
  | .pure a, rs, k => by simp [Q.run, Q.ev, Q.reads]
  | .fail, rs, k => rfl
  | .getT t f, rs, k => by simp only [Q.run, Q.ev, Q.reads]; rw [Q.run_eq st (f (st.t t))]; simp [List.append_assoc]
  | .getS d f, rs, k => by simp only [Q.run, Q.ev, Q.reads]; rw [Q.run_eq st (f (st.s d))]; simp [List.append_assoc]
  | .opt o f, rs, k => by
    cases o with
    | none => rfl
    | some b => simp only [Q.run, Q.ev, Q.reads, Option.bind_some]; rw [Q.run_eq st (f b)]
  | .chk p dp f, rs, k => by
    simp only [Q.run, Q.ev, Q.reads]
    split
    · rw [Q.run_eq st f]
    · rfl
  | .br b x y, rs, k => by
    cases b
    · simp only [Q.run, Q.ev, Q.reads]; rw [Q.run_eq st y]
    · simp only [Q.run, Q.ev, Q.reads]; rw [Q.run_eq st x]
theorem Q.bind_ev {α β : Type} (st : St) (f : α → Q β) : ∀ q : Q α, (q.bind f).ev st = (q.ev st).bind fun a => (f a).ev st
  | .pure a => rfl
  | .fail => rfl
  | .getT t g => by simp only [Q.bind, Q.ev]; exact Q.bind_ev st f _
  | .getS d g => by simp only [Q.bind, Q.ev]; exact Q.bind_ev st f _
  | .opt o g => by
    cases o with
    | none => rfl
    | some b => simp only [Q.bind, Q.ev, Option.bind_some]; exact Q.bind_ev st f _
  | .chk p dp g => by
    simp only [Q.bind, Q.ev]
    split
    · exact Q.bind_ev st f _
    · rfl
  | .br b x y => by
    cases b
    · simp only [Q.bind, Q.ev]; exact Q.bind_ev st f _
    · simp only [Q.bind, Q.ev]; exact Q.bind_ev st f _
def agree (st st' : St) : Res → Prop
  | .t k => st.t k = st'.t k
  | .s d => st.s d = st'.s d
theorem Q.local_ {α : Type} (st st' : St) : ∀ q : Q α, (∀ x ∈ q.reads st, agree st st' x) → q.ev st' = q.ev st ∧ q.reads st' = q.reads st
  | .pure a, _ => ⟨rfl, rfl⟩
  | .fail, _ => ⟨rfl, rfl⟩
  | .getT t g, h => by
    have h1 : st.t t = st'.t t := h (.t t) (by simp [Q.reads])
    have := Q.local_ st st' (g (st.t t)) (fun x hx => h x (by simp [Q.reads, hx]))
    simp only [Q.ev, Q.reads, ← h1]
    exact ⟨this.1, by rw [this.2]⟩
  | .getS t g, h => by
    have h1 : st.s t = st'.s t := h (.s t) (by simp [Q.reads])
    have := Q.local_ st st' (g (st.s t)) (fun x hx => h x (by simp [Q.reads, hx]))
    simp only [Q.ev, Q.reads, ← h1]
    exact ⟨this.1, by rw [this.2]⟩
  | .opt o g, h => by
    cases o with
    | none => exact ⟨rfl, rfl⟩
    | some b => exact Q.local_ st st' (g b) h
  | .chk p dp g, h => by
    simp only [Q.ev, Q.reads] at h ⊢
    split
    · rename_i hp
      rw [if_pos hp] at h
      exact Q.local_ st st' g h
    · exact ⟨rfl, rfl⟩
  | .br b x y, h => by
    cases b
    · exact Q.local_ st st' y h
    · exact Q.local_ st st' x h

/-! ### What an operation comes to -/
theorem backs_bind {R : Type} (bs : List Blk) : ∀ (l : List (Nat × Ty)) (n : Nat) (k : List (Nat × Blk) → Option R), backs bs n l k = (backs bs n l some).bind k
  | [], n, k => rfl
  | x :: l, n, k => by
    simp only [backs]
    cases nth bs n with
    | none => rfl
    | some b =>
      simp only [Option.bind_some]
      cases b.var x.2 with
      | none => rfl
      | some y =>
        simp only [Option.bind_some]
        have e1 := backs_bind bs l (n + 1) (fun l => k ((x.1, Blk.box x.2 (.ro x.2 y)) :: l))
        have e2 := backs_bind bs l (n + 1) (fun l => some ((x.1, Blk.box x.2 (.ro x.2 y)) :: l))
        rw [e1, e2, Option.bind_assoc]
        rfl
theorem imp_bind {R S : Type} (d nb : Nat) (bs : List Blk) (f : S → Option R) : ∀ (s : Sh) (n : Nat) (v : AV) (k : AV → Nat → List (Nat × Blk) → Option S), imp d nb bs s n v (fun a b c => (k a b c).bind f) = (imp d nb bs s n v k).bind f := by
  intro s
  induction s with
  | ro t => intro n v k; simp only [imp, Option.bind_assoc]
  | own t e => intro n v k; simp only [imp, Option.bind_assoc]
  | box t => intro n v k; simp only [imp, Option.bind_assoc]
  | unit =>
    intro n v k
    simp only [imp]
    cases v <;> rfl
  | pair a b iha ihb =>
    intro n v k
    simp only [imp, Option.bind_assoc]
    congr 1
    funext x
    congr 1
    funext y
    rw [← iha]
    congr 1
    funext x' n' m
    rw [← ihb]
theorem imps_bind {R S : Type} (d nb : Nat) (bs : List Blk) (f : S → Option R) : ∀ (ss : List Sh) (n : Nat) (vs : List AV) (k : List AV → List (Nat × Blk) → Option S), imps d nb bs ss n vs (fun a b => (k a b).bind f) = (imps d nb bs ss n vs k).bind f
  | [], n, [], k => rfl
  | [], n, _ :: _, k => rfl
  | s :: ss, n, vs, k => by
    simp only [imps, Option.bind_assoc]
    congr 1
    funext v
    rw [← imp_bind]
    congr 1
    funext v' n' m
    rw [← imps_bind d nb bs f ss]
/-- What is written. -/
def Pend.delta (X : Orc) : Pend → Option (List (Nat × AV) × List (Nat × Blk))
  | .done tm si => some (tm, si)
  | .call f args bs dst shs ids marks => (X.call f args bs).bind fun r => backs r.2 0 ids fun m =>
      match dst with
      | none => some ([], m ++ marks)
      | some d => imps d ids.length r.2 shs 0 r.1 fun vs m' => some ([(d, tupA vs)], m' ++ m ++ marks)
theorem Pend.run_eq {R : Type} (X : Orc) (st : St) (p : Pend) (k : St → Option R) : p.run X st k = (p.delta X).bind fun x => k (st.upd x.1 x.2) := by
  cases p with
  | done tm si => rfl
  | call f args bs dst shs ids marks =>
    simp only [Pend.run, Pend.delta, Option.bind_assoc]
    congr 1
    funext r
    rw [backs_bind, backs_bind (R := List (Nat × AV) × List (Nat × Blk)), Option.bind_assoc]
    congr 1
    funext m
    cases dst with
    | none => rfl
    | some d => simp only; rw [← imps_bind]; rfl
theorem delta_writes {X : Orc} {p : Pend} {x : List (Nat × AV) × List (Nat × Blk)} (h : p.delta X = some x) : (∀ t v, look x.1 t = some v → Res.t t ∈ p.writes) ∧ ∀ d b, look x.2 d = some b → Res.s d ∈ p.writes := by
  cases p with
  | done tm si =>
    simp only [Pend.delta, Option.some.injEq] at h
    subst h
    refine ⟨fun t v h => ?_, fun d b h => ?_⟩
    · simp only [Pend.writes, List.mem_append, List.mem_map]; exact .inl ⟨_, look_mem h, rfl⟩
    · simp only [Pend.writes, List.mem_append, List.mem_map]; exact .inr ⟨_, look_mem h, rfl⟩
  | call f args bs dst shs ids marks =>
    simp only [Pend.delta, Option.bind_eq_some_iff] at h
    obtain ⟨r, _, h⟩ := h
    have hq_ := backs_sound _ _ _ h
    clear h
    obtain ⟨m, h, h1, h2⟩ := hq_
    have hm : ∀ d b, look m d = some b → Res.s d ∈ ids.map (fun x => Res.s x.1) := by
      intro d b hd
      obtain ⟨j, hj⟩ := List.mem_iff_getElem?.1 (look_mem hd)
      have hj1 := (List.getElem?_eq_some_iff.1 hj).1
      have hj2 : j < ids.length := by omega
      obtain ⟨y, h3, _⟩ := h2 j ids[j].1 ids[j].2 (List.getElem?_eq_getElem hj2)
      rw [hj] at h3
      simp only [Option.some.injEq, Prod.mk.injEq] at h3
      rw [List.mem_map]
      exact ⟨ids[j], List.getElem_mem hj2, by rw [h3.1]⟩
    have hk : ∀ d b, look marks d = some b → Res.s d ∈ marks.map (fun x => Res.s x.1) := fun d b hd => List.mem_map.2 ⟨_, look_mem hd, rfl⟩
    cases dst with
    | none =>
      simp only [Option.some.injEq] at h
      subst h
      refine ⟨fun t v h => by simp [look_nil] at h, fun d b h => ?_⟩
      rw [look_append, Option.or_eq_some_iff] at h
      simp only [Pend.writes, List.mem_append]
      rcases h with h | ⟨_, h⟩
      · exact .inl (.inr (hm d b h))
      · exact .inr (hk d b h)
    | some d0 =>
      simp only at h
      have hq_ := imps_sound _ _ _ _ h
      clear h
      obtain ⟨vs, m', h, h3, _⟩ := hq_
      simp only [Option.some.injEq] at h
      subst h
      refine ⟨fun t v h => ?_, fun d b h => ?_⟩
      · rw [look_cons, look_nil] at h
        split at h
        · rename_i e; subst e; simp [Pend.writes]
        · cases h
      · rw [look_append, look_append, Option.or_eq_some_iff, Option.or_eq_some_iff] at h
        simp only [Pend.writes, List.mem_append]
        rcases h with (h | ⟨_, h⟩) | ⟨_, h⟩
        · rw [h3.2.2] at h
          split at h
          · rename_i hr
            refine .inl (.inl (.inr ?_))
            rw [List.mem_map]
            exact ⟨d - (10000 + 100 * d0), by rw [List.mem_range]; omega, by congr 1; omega⟩
          · cases h
        · exact .inl (.inr (hm d b h))
        · exact .inr (hk d b h)

/-! ### All operations -/
structure EnvOk (E : Env) : Prop where
  T : ∀ t i, E.T t = some i → TIok E.P t i
  mixed : E.P.follows .mixedOrders = true
theorem op_sound {o : Oper} {p : Pend} (hE : EnvOk E) (hi : Inv O st a C) (hd : ∀ d : Nat, o.dst = some d → d < 1000) (h : (opQ E o).ev st = some p) :
    OpOk E O o a C p ∨ ∃ f args bs dst shs is marks vals C0, p = .call f args bs dst shs is marks ∧ Issue E o a C f args bs dst shs is marks vals C0 := by
  have hT := hE.T
  cases ho : o.op with
  | move x => exact .inl (move_ok hi (.inl ho) h)
  | assign x => exact .inl (move_ok hi (.inr ho) h)
  | pick c x y => exact .inl (pick_ok hi ho h)
  | alloc t => exact .inl (alloc_ok hT hi hd ho h)
  | box t x => exact .inl (box_ok hi hd ho h)
  | build t ps => exact .inl (build_ok hT hi ho h)
  | buildSlice t n ps => exact .inl (buildSlice_ok hT hi hd ho h)
  | load t x => exact .inl (load_ok hT hi ho h)
  | store t x y => exact .inl (store_ok hT hi ho h)
  | nilCheck x => exact .inl (nilCheck_ok hi ho h)
  | binOp op t x y u => exact .inl (binOp_ok hT hi ho h)
  | unOp op t x => exact .inl (unOp_ok hi ho h)
  | convert s t x => exact .inl (convert_ok hT hi ho h)
  | makeInterface t x => exact .inl (makeInterface_ok hT hi ho h)
  | makeFunc g x y =>
    cases g with
    | func f => exact .inl (makeFunc_ok hi ho h)
    | _ => unfold opQ at h; rw [ho] at h; simp [Q.ev] at h
  | makeSlice t x y => exact .inl (makeSlice_ok hT hi hd ho h)
  | slice t x lo hi' mx => exact .inl (slice_ok hT hi ho h)
  | fieldAddr t x j => exact .inl (fieldAddr_ok hT hi ho h)
  | field t x j => exact .inl (field_ok hT hi ho h)
  | indexAddr t x y => exact .inl (indexAddr_ok hT hi ho h)
  | index t x y => exact .inl (index_ok hT hi ho h)
  | extract x j => exact .inl (extract_ok hi ho h)
  | call c =>
    cases hc : c.callee with
    | builtin b =>
      cases b with
      | len => exact .inl (len_ok hT hi ho hc h)
      | append => exact .inl (append_ok hT hi hd ho hc h)
      | max => exact .inl (max_ok hi ho (.inl hc) h)
      | min => exact .inl (max_ok hi ho (.inr hc) h)
      | _ => unfold opQ at h; rw [ho] at h; simp only [hc] at h; simp [Q.ev] at h
    | value g => exact .inr (call_ok hT hi ho hc h)
    | invoke r n => unfold opQ at h; rw [ho] at h; simp only [hc] at h; simp [Q.ev] at h
  | _ => unfold opQ at h; rw [ho] at h; simp [Q.ev] at h

/-! ### The oracle, and the operation's own law -/
def CallsOk (E : Env) (X : Orc) : Prop := ∀ f args bs r, X.call f args bs = some r → CallOk E.P f args bs r
theorem RAs.chain {C : Ctx} : ∀ {vs : List AV} {us : List Value}, RAs C vs us → RA C (tupA vs) (tup us)
  | [], [], _ => .inr ⟨[_], ⟨[], rfl, rfl⟩, rfl⟩
  | [v], [u], h => h.1
  | v :: w :: vs, u :: x :: us, h => .inr ⟨[_], ⟨u :: x :: us, rfl, chain_ok h⟩, rfl⟩
  | [], _ :: _, h => h.elim
  | [_], [], h => h.elim
  | [_], _ :: _ :: _, h => h.2.elim
  | _ :: _ :: _, [], h => h.elim
  | _ :: _ :: _, [_], h => h.2.elim
theorem op_wp {X : Orc} {o : Oper} {p : Pend} {x : List (Nat × AV) × List (Nat × Blk)} (hE : EnvOk E) (hX : CallsOk E X) (hG : GlobOk E.P O.w0 O.RO0) (hi : Inv O st a C) (hO : O.n ≤ 1000) (hd : ∀ d : Nat, o.dst = some d → d < O.n) (h : (opQ E o).ev st = some p) (hx : p.delta X = some x)
    (hneed : ∀ d ∈ p.need, st.s d = none) {next : Act → World → Prop} {Q : Exit → Act → World → Prop} (hk : ∀ a' C', Inv O (st.upd x.1 x.2) a' C' → next a' C'.w) : o.wp E.P a C.w next Q := by
  rcases op_sound hE hi (fun d h => Nat.lt_of_lt_of_le (hd d h) hO) h with ⟨tm, si, rfl, nx, C', hr, he, hc, hsi, hcase⟩ | ⟨f, args, bs, dst, shs, is, marks, vals, C0, rfl, iss⟩
  · simp only [Pend.delta, Option.some.injEq] at hx
    subst hx
    rw [hi.si] at hsi
    unfold Oper.wp
    rw [hr]
    rcases hcase with ⟨rfl, hdst, rfl | ⟨val, rfl⟩⟩ | ⟨d, v, val, rfl, hdst, rfl, hv⟩
    · rw [Oper.upon_skip, hdst]
      exact hk _ C' (hi.upd0 he hsi hc)
    · rw [Oper.upon_value, hdst]
      exact hk _ C' (hi.upd0 he hsi hc)
    · rw [Oper.upon_value, hdst]
      exact hk _ C' (hi.upd1 he hsi hc (hd d hdst) hv)
  · simp only [Pend.delta, Option.bind_eq_some_iff] at hx
    obtain ⟨r, hr, hx⟩ := hx
    obtain ⟨m, hx, hml, hm⟩ := backs_sound _ _ _ hx
    have hm : ∀ (j d : Nat) (t : Ty), is[j]? = some (d, t) → ∃ y, m[j]? = some (d, .box t (.ro t y)) ∧ r.2[j]? = some (.box t (.ro t y)) := fun j d t hj => by
      obtain ⟨y, h1, h2⟩ := hm j d t hj
      exact ⟨y, h1, by rw [← h2, Nat.zero_add]⟩
    have hc1 := hi.c.mark iss.valid
    have he1 := Ext.mark iss.valid
    obtain ⟨nx, w1, h1, h2⟩ := hX f args bs r hr C0 vals iss.si iss.bx (by rw [iss.w, iss.RO]; exact hG.keep hc1.keep0) iss.args iss.wok
    -- what is done with the call's value
    have fin : ∀ v w', (∃ C' us, C'.w = w' ∧ RetOk C0 bs.length C' ∧ C'.si = enter.number 1000 r.2 ∧ RAs C' r.1 us ∧ v = tup us) → next (a.put o.dst v) w' := by
      rintro v w' ⟨C', us, rfl, hret, hsi', hus, rfl⟩
      rw [← iss.len] at hret
      have hl : ∀ (j d : Nat) (t : Ty), is[j]? = some (d, t) → ∃ v, look (C.mk' marks).si d = some (.box t v) := fun j d t hj => by
        obtain ⟨b, v, _, h3⟩ := iss.box j d t hj
        exact ⟨v, h3⟩
      have hdst := iss.dst
      cases hd1 : o.dst with
      | none =>
        rw [hd1] at hdst
        subst hdst
        simp only [Option.some.injEq] at hx
        subst hx
        obtain ⟨C2, e2, hsi2, hext, hcinv, _⟩ := after hc1 iss.nd hl iss.w iss.RO iss.φ hret hsi' (base := 10000) (cnt := 0) (Nat.le_refl _) (fun x h1 h2 => by omega) hml hm ImpOk.nil
        rw [← e2]
        exact hk _ C2 (hi.upd0 (he1.trans hext) (by rw [hsi2]; show _ = _ ++ st.si; rw [← hi.si]; simp [Ctx.mk']) hcinv)
      | some d =>
        rw [hd1] at hdst
        subst hdst
        simp only at hx
        obtain ⟨vs, m', hx, himp, htr⟩ := imps_sound _ _ _ _ hx
        simp only [Option.some.injEq] at hx
        subst hx
        rw [Nat.zero_add] at himp htr
        obtain ⟨C2, e2, hsi2, hext, hcinv, hmv⟩ := after hc1 iss.nd hl iss.w iss.RO iss.φ hret hsi' (base := 10000 + 100 * d) (cnt := (shs.map Sh.count).sum) (by omega) (fun x h1 h2 => by
          have hfree : st.s x = none := by
            refine hneed x ?_
            simp only [Pend.need, List.mem_map, List.mem_range]
            exact ⟨x - (10000 + 100 * d), by omega, by omega⟩
          show look (marks ++ C.si) x = none
          rw [look_append]
          have h3 : look C.si x = none := by rw [hi.si]; exact hfree
          rw [h3, Option.or_none]
          cases hmk : look marks x with
          | none => rfl
          | some b =>
            rcases iss.valid _ (look_mem hmk) with ⟨_, _, _, _, _, _, h4⟩ | ⟨_, _, _, h4, _⟩ <;> (simp only at h4; rw [h3] at h4; cases h4)) hml hm himp
        rw [← e2]
        refine hk _ C2 (hi.upd1 (he1.trans hext) (by rw [hsi2]; show _ = _ ++ st.si; rw [← hi.si]; simp [Ctx.mk']) hcinv (hd d hd1) ?_)
        exact (htr C' C2 us hsi' hmv hus).chain
    unfold Oper.wp
    rw [iss.run, ← iss.w, h1]
    cases nx with
    | value v => exact fin _ _ h2
    | enter g as =>
      rw [Oper.upon_enter]
      refine Calls.mono' h2 fun e w' h => ?_
      cases e with
      | returned v => exact fin _ _ h
      | _ => exact h.elim
    | _ => exact h2.elim
end Go.Proofs.Cdm
