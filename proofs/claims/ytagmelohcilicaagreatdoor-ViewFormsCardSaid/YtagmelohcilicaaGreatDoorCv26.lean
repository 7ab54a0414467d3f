/-
A call from end to end; the machine with fuel.
-/
import Derived.Test.YtagmelohcilicaaGreatDoorCv25
namespace Go.Proofs.Cdm
open Go Go.RowKit
variable {E : Env} {O : Old} {st : St} {a : Act} {C : Ctx}

theorem nodup_at {l : List Nat} (h : l.Nodup) {i j : Nat} {d : Nat} (hi : l[i]? = some d) (hj : l[j]? = some d) : i = j := by
  have h8 := List.getElem?_eq_some_iff.1 hi
  have h9 := List.getElem?_eq_some_iff.1 hj
  rcases Nat.lt_trichotomy i j with hjj | hjj | hjj
  · exact absurd (h8.2.trans h9.2.symm) (List.pairwise_iff_getElem.1 h i j h8.1 h9.1 hjj)
  · exact hjj
  · exact absurd (h9.2.trans h8.2.symm) (List.pairwise_iff_getElem.1 h j i h9.1 h8.1 hjj)
theorem xs_inj : ∀ {xs : List Xp} {i j : Nat} {d : Nat} {v w : Value}, (xs.filterMap (·.1)).Nodup → xs[i]? = some (some d, v) → xs[j]? = some (some d, w) → i = j
  | [], i, j, d, v, w, _, hi, _ => by simp at hi
  | x :: xs, i, j, d, v, w, hn, hi, hj => by
    have mem : ∀ (k : Nat) (v : Value), xs[k]? = some (some d, v) → d ∈ xs.filterMap (·.1) := fun k v hk => List.mem_filterMap.2 ⟨_, List.mem_of_getElem? hk, rfl⟩
    cases i with
    | zero =>
      simp at hi
      subst hi
      cases j with
      | zero => rfl
      | succ j =>
        simp at hj
        simp only [List.filterMap_cons] at hn
        rw [List.nodup_cons] at hn
        exact absurd (mem j w hj) hn.1
    | succ i =>
      simp at hi
      cases j with
      | zero =>
        simp at hj
        subst hj
        simp only [List.filterMap_cons] at hn
        rw [List.nodup_cons] at hn
        exact absurd (mem i v hi) hn.1
      | succ j =>
        simp at hj
        have hn' : (xs.filterMap (·.1)).Nodup := by
          cases hx : x.1 with
          | none => rwa [List.filterMap_cons_none hx] at hn
          | some d' => rw [List.filterMap_cons_some hx, List.nodup_cons] at hn; exact hn.2
        rw [xs_inj hn' hi hj]
theorem results_run {P : Program} {fn : Func} {tmps : Array Value} {w : World} {us : List Value} (h : (fn.results.toList.mapM (resRun tmps)).run P w = .ok us w) : (results fn tmps).run P w = .ok (tup us) w := by
  unfold results
  rw [Array.mapM_eq_mapM_toList]
  simp only [Sem.run_bind, Sem.run_map, Sem.run_pure]
  refine (congrArg (fun z => (z.andThen fun a w' => Result.ok a.toArray w').andThen fun a w' => Result.ok (if h : a.size = 1 then a[0] else Value.tuple a) w') ((congrArg (fun (f : ResultVar → Sem Value) => (fn.results.toList.mapM f).run P w) (funext fun r => ?_)).trans h)).trans ?_
  · cases r <;> rfl
  · simp only [Result.andThen_ok]
    match us with
    | [] => rfl
    | [t] => rfl
    | t :: u :: ts => simp [tup]

theorem fin_sound (hE : EnvOk E) {C0 : Ctx} {nb : Nat} {f : FuncId} {fn : Func} {r : Ret} (e1 : O.w0 = C0.w) (e2 : O.RO0 = C0.RO) (e3 : O.φ0 = C0.φ) (e4 : ∀ k, O.bor k ↔ ∃ j, j < nb ∧ C0.φ (1000 + j) = k) (h9 : nb ≤ 9000) (hi : Inv O st a C) (h : (finQ E f fn nb).ev st = some r) :
    ∃ v, (results fn a.tmps).run E.P C.w = .ok v C.w ∧ ∃ C' us, C'.w = C.w ∧ RetOk C0 nb C' ∧ C'.si = enter.number 1000 r.2 ∧ RAs C' r.1 us ∧ v = tup us := by
  unfold finQ at h
  have hq_ := ress_sound hE hi _ _ h
  clear h
  obtain ⟨vs, ys, h, hvs, hts⟩ := hq_
  have hq_ := chk_ev h
  clear h
  obtain ⟨hsh, h⟩ := hq_
  have hq1 := outs_sound hi _ _ h
  clear h
  obtain ⟨l, us, M, h, hl, hM, hMu, hbox⟩ := hq1
  have hz := (zip_fst (E.shp f) vs hsh).2
  have hq1 := exps_sound hi _ us M [] [] ys _ ⟨hM, hMu, rfl, by simp, by simp, by simp⟩ (by rw [hz]; exact hvs) h
  clear h
  obtain ⟨rs, us', M1, bs, xs, h, hx, hfin⟩ := hq1
  simp only [Cdm.Q.ev, Option.some.injEq, List.nil_append] at h hx hfin
  subst h
  generalize hMM : M ++ M1 = MM at hx hfin
  have hsub : ∀ x ∈ M, x ∈ MM := fun x hx => by rw [← hMM]; simp [hx]
  have hc := hi.c.mark hx.valid
  let src : Nat → Nat := fun j => match xs[j]? with
    | some (some d, _) => d
    | _ => 0
  let C' : Ctx := ⟨C.w, ROm C MM, enter.number 1000 (l ++ bs), fun x => if x < 1000 + nb then C.φ x else C.φ (src (x - (1000 + nb))), fun x => match xs[x - (1000 + nb)]? with
    | some (some d, _) => C.ν d
    | some (none, v) => v
    | none => undef⟩
  have lk : ∀ d b, look C'.si d = some b → (∃ j, j < nb ∧ d = 1000 + j ∧ l[j]? = some b) ∨ ∃ j, d = 1000 + nb + j ∧ bs[j]? = some b := by
    intro d b hd
    have hd : look (enter.number 1000 (l ++ bs)) d = some b := hd
    rw [look_number] at hd
    split at hd
    · by_cases hlt : d - 1000 < l.length
      · rw [List.getElem?_append_left hlt] at hd
        exact .inl ⟨d - 1000, by omega, by omega, hd⟩
      · rw [List.getElem?_append_right (by omega)] at hd
        exact .inr ⟨d - 1000 - l.length, by omega, hd⟩
    · cases hd
  have φb : ∀ j, j < nb → C'.φ (1000 + j) = C.φ (1000 + j) := fun j hj => if_pos (by omega)
  have φs : ∀ (j d : Nat) (v : Value), xs[j]? = some (some d, v) → C'.φ (1000 + nb + j) = C.φ d ∧ C'.ν (1000 + nb + j) = C.ν d := by
    intro j d v hj
    have e : 1000 + nb + j - (1000 + nb) = j := by omega
    constructor
    · show (if 1000 + nb + j < 1000 + nb then _ else C.φ (src (1000 + nb + j - (1000 + nb)))) = _
      rw [if_neg (by omega), e]
      show C.φ (match xs[j]? with | some (some d, _) => d | _ => 0) = _
      rw [hj]
    · show (match xs[1000 + nb + j - (1000 + nb)]? with | some (some d, _) => C.ν d | some (none, v) => v | none => undef) = _
      rw [e, hj]
  have φn : ∀ (j : Nat) (v : Value), xs[j]? = some (none, v) → C'.ν (1000 + nb + j) = v := by
    intro j v hj
    have e : 1000 + nb + j - (1000 + nb) = j := by omega
    show (match xs[1000 + nb + j - (1000 + nb)]? with | some (some d, _) => C.ν d | some (none, v) => v | none => undef) = _
    rw [e, hj]
  have fc : FinC C C' nb MM bs xs := ⟨rfl, fun b o h => h, fun j b hb => by
    show look (enter.number 1000 (l ++ bs)) (1000 + nb + j) = some b
    rw [look_number, if_pos (by omega), show 1000 + nb + j - 1000 = l.length + j by omega, List.getElem?_append_right (by omega), show l.length + j - l.length = j by omega]
    exact hb, φs, φn⟩
  have hxj : ∀ (j : Nat) (b : Blk), bs[j]? = some b → ∃ x, xs[j]? = some x ∧ Ent C MM b x := by
    intro j b hb
    have hj := (List.getElem?_eq_some_iff.1 hb).1
    have hj2 : j < xs.length := by have := hx.len; omega
    exact ⟨xs[j], List.getElem?_eq_getElem hj2, hx.ent j b _ hb (List.getElem?_eq_getElem hj2)⟩
  have alive : ∀ d, d ∈ xs.filterMap (·.1) → look (C.mk' MM).si d = look C.si d := by
    intro d hd
    show look (MM ++ C.si) d = _
    rw [look_append]
    cases hk : look MM d with
    | none => rfl
    | some b => exact absurd rfl ((hx.src d hd).2 _ (look_mem hk))
  have memx : ∀ (j d : Nat) (v : Value), xs[j]? = some (some d, v) → d ∈ xs.filterMap (·.1) := fun j d v hj => List.mem_filterMap.2 ⟨_, List.mem_of_getElem? hj, rfl⟩
  -- where a block comes from
  have blk : ∀ d b k, look C'.si d = some b → blkOf C' d b = some k → (∃ j t w, j < nb ∧ d = 1000 + j ∧ look C.si (1000 + j) = some (.box t w) ∧ blkOf C (1000 + j) (.box t w) = some k) ∨
      ∃ j d0 v b0, d = 1000 + nb + j ∧ xs[j]? = some (some d0, v) ∧ look C.si d0 = some b0 ∧ blkOf C d0 b0 = some k ∧ ((∃ t e g ex l, b0 = .sl t e g ex l) ∨ ¬ (1000 ≤ d0 ∧ d0 < 10000)) := by
    intro d b k hd hk
    rcases lk d b hd with ⟨j, hj, rfl, hlj⟩ | ⟨j, rfl, hbj⟩
    · obtain ⟨t, w, x, c, e, g1, g2, g3, g4⟩ := hbox j hj
      rw [hlj] at g2
      injection g2 with g2
      subst g2
      refine .inl ⟨j, t, w, hj, rfl, g1, ?_⟩
      simp only [blkOf] at hk ⊢
      rw [← φb j hj]
      exact hk
    · obtain ⟨⟨o, v⟩, h1, h2⟩ := hxj j b hbj
      cases o with
      | none =>
        obtain ⟨t, e, A, rfl, _, _, rfl⟩ := h2
        simp only [blkOf] at hk
        rw [φn j _ h1] at hk
        cases A <;> simp [blkV] at hk
      | some d0 =>
        obtain ⟨p1, p2⟩ := φs j d0 v h1
        rcases h2 with ⟨t, e, g, l', h3, rfl⟩ | ⟨t, w, x, c, e, h3, h4, rfl, h5, h6⟩
        · refine .inr ⟨j, d0, v, _, rfl, h1, h3, ?_, .inl ⟨t, e, g, true, l', rfl⟩⟩
          simp only [blkOf] at hk ⊢
          rw [← p2]
          exact hk
        · refine .inr ⟨j, d0, v, _, rfl, h1, h4, ?_, .inr h3⟩
          simp only [blkOf] at hk ⊢
          rw [← p1]
          exact hk
  have hbor : ∀ j t w, j < nb → look C.si (1000 + j) = some (.box t w) → C.φ (1000 + j) = C0.φ (1000 + j) := by
    intro j t w hj hl
    rw [← e3]
    exact (hi.c.held j t w (by omega) hl).2.2
  have ret : RetOk C0 nb C' := by
    refine ⟨⟨fun d b hd => ?_, fun d d' b b' k hd hd' hk hk' => ?_, fun b o hr => hc.wok.ro b o hr⟩, ?_, ?_, ?_, ?_, fun b hb hne => ?_, fun b o hr => ?_, fun b o hr => ?_, fun j hj => ?_, fun d b k hd hk => ?_⟩
    · rcases lk d b hd with ⟨j, hj, rfl, hlj⟩ | ⟨j, rfl, hbj⟩
      · obtain ⟨t, w, x, c, e, g1, g2, g3, g4⟩ := hbox j hj
        rw [hlj] at g2
        injection g2 with g2
        subst g2
        have ha : look (C.mk' MM).si (1000 + j) = some (.box t w) := by
          show look (MM ++ C.si) (1000 + j) = _
          rw [look_append]
          cases hk : look MM (1000 + j) with
          | none => exact g1
          | some b1 =>
            rcases hx.valid _ (look_mem hk) with ⟨_, _, _, _, _, _, h2⟩ | ⟨_, _, _, _, h2⟩
            · simp only at h2; rw [g1] at h2; cases h2
            · simp only at h2; omega
        obtain ⟨_, _, _, _, _, h5⟩ := hc.wok.site _ _ ha
        refine ⟨by simp [fits], c, e, by rw [φb j hj]; exact g3, g4.keep (keep_mono hsub), fun o => by rw [φb j hj]; exact h5 o⟩
      · obtain ⟨⟨o, v⟩, h1, h2⟩ := hxj j b hbj
        cases o with
        | none =>
          obtain ⟨t, e, A, rfl, hz, hA, rfl⟩ := h2
          refine ⟨hz, by simp [LIM], by simp, [], .inl ⟨rfl, rfl, A, hA, φn j _ h1⟩, Reps.nil, fun b o hb => ?_⟩
          rw [φn j _ h1] at hb
          cases A <;> simp [blkV] at hb
        | some d0 =>
          obtain ⟨p1, p2⟩ := φs j d0 v h1
          rcases h2 with ⟨t, e, g, l', h3, rfl⟩ | ⟨t, w, x, c, e, h3, h4, rfl, h5, h6⟩
          · obtain ⟨hz, hle, hf, ws, h4, h5, h6⟩ := hc.wok.site d0 _ ((alive d0 (memx j d0 v h1)).trans h3)
            exact ⟨hz, hle, hf, ws, by rw [p2]; exact h4, h5, fun b o hb hr => h6 b o (by have hb2 := hb; rw [p2] at hb2; exact hb2) hr⟩
          · obtain ⟨_, _, _, _, _, h7⟩ := hc.wok.site d0 _ ((alive d0 (memx j d0 v h1)).trans h4)
            exact ⟨by simp [fits], c, e, by rw [p1]; exact h5, h6, fun o => by rw [p1]; exact h7 o⟩
    · rcases blk d b k hd hk with ⟨j, t, w, hj, rfl, g1, g2⟩ | ⟨j, d0, v, b0, rfl, g1, g2, g3, g4⟩ <;> rcases blk d' b' k hd' hk' with ⟨j', t', w', hj', rfl, g1', g2'⟩ | ⟨j', d0', v', b0', rfl, g1', g2', g3', g4'⟩
      · exact hi.c.wok.sep _ _ _ _ k g1 g1' g2 g2'
      · have := hi.c.wok.sep _ _ _ _ k g1 g2' g2 g3'
        subst this
        rcases g4' with ⟨_, _, _, _, _, rfl⟩ | g4'
        · rw [g1] at g2'; cases g2'
        · omega
      · have := hi.c.wok.sep _ _ _ _ k g2 g1' g3 g2'
        subst this
        rcases g4 with ⟨_, _, _, _, _, rfl⟩ | g4
        · rw [g1'] at g2; cases g2
        · omega
      · have := hi.c.wok.sep _ _ _ _ k g2 g2' g3 g3'
        subst this
        rw [xs_inj hx.nd g1 g1']
    · show C.w.os = _; rw [hi.c.os, e1]
    · show C.w.tape = _; rw [hi.c.tape, e1]
    · show C.w.output = _; rw [hi.c.output, e1]
    · have := hi.c.grow; rw [e1] at this; exact this
    · show C.w.heap[b]? = _
      rw [hi.c.old b (by rw [e1]; exact hb) (fun hb' => by
        obtain ⟨j, hj, he⟩ := (e4 b).1 hb'
        exact hne j hj he), e1]
    · exact .inl (hi.c.roOld b o (by rw [e2]; exact hr))
    · have := hc.roNew b o hr
      rw [e1, e2] at this
      exact this
    · obtain ⟨t, w, x, c, e, g1, _⟩ := hbox j hj
      rw [φb j hj]
      exact hbor j t w hj g1
    · rcases blk d b k hd hk with ⟨j, t, w, hj, rfl, g1, g2⟩ | ⟨j, d0, v, b0, rfl, g1, g2, g3, g4⟩
      · exact .inl ⟨j, hj, rfl⟩
      · refine .inr ?_
        rcases hi.c.mine d0 b0 k g2 g3 with h1 | ⟨_, h2, h3, t, w, rfl⟩
        · rw [e1] at h1; exact h1
        · rcases g4 with ⟨_, _, _, _, _, h4⟩ | h4
          · cases h4
          · exact absurd ⟨h2, h3⟩ h4
  exact ⟨_, results_run hts, C', _, rfl, ret, rfl, hfin C' fc, rfl⟩

structure EnvOk2 (E : Env) : Prop where
  ok : EnvOk E
  noG : ∀ (f : FuncId) (fn : Func), E.P.funcs[f]? = some fn → (fn.name == "runtime.NumGoroutine") = false
  ext : ∀ f g, E.ext f = some g → ∀ args bs r, g args bs = some r → CallOk E.P f args bs r
theorem RAs.get {C : Ctx} : ∀ {vs : List AV} {xs : List Value} {i : Nat} {v : AV}, RAs C vs xs → vs[i]? = some v → ∃ x, xs[i]? = some x ∧ RA C v x
  | _ :: _, x :: _, 0, v, h, e => by simp at e; subst e; exact ⟨x, rfl, h.1⟩
  | _ :: _, _ :: _, i + 1, v, h, e => by
    obtain ⟨x, h1, h2⟩ := RAs.get h.2 (show _ = some v by simpa using e)
    exact ⟨x, by simpa using h1, h2⟩
  | [], _, _, _, _, e => by simp at e
  | _ :: _, [], _, _, h, _ => h.elim
theorem body_sound {X : Orc} {f : FuncId} {args : List AV} {bs : List Blk} {r : Ret} (hE : EnvOk2 E) (hX : CallsOk E X) (hL : LoopsOk E X) (h : body E X f args bs = some r) : CallOk E.P f args bs r := by
  unfold body at h
  cases hx : E.ext f with
  | some g => rw [hx] at h; exact hE.ext f g hx args bs r h
  | none =>
    rw [hx] at h
    simp only at h
    cases hf : E.P.funcs[f]? with
    | none => rw [hf] at h; cases h
    | some fn =>
      rw [hf] at h
      simp only at h
      cases hb : fn.body with
      | none => rw [hb] at h; cases h
      | some c =>
        rw [hb] at h
        simp only at h
        cases hc : (Nat.ble args.length fn.ntmps && (Nat.blt fn.ntmps 1000 && Nat.ble bs.length 9000)) with
        | false => rw [hc] at h; cases h
        | true =>
          rw [hc] at h
          simp only [cond_true] at h
          simp only [Bool.and_eq_true] at hc
          obtain ⟨h1, h2, h3⟩ := hc
          have h1 := Nat.le_of_ble_eq_true h1
          have h2 := blt_iff.1 h2
          have h3 := Nat.le_of_ble_eq_true h3
          intro C0 vals hsi hbx hG hr hW
          have hlen := hr.length
          let tys : List Ty := bs.map fun b => match b with | .box t _ => t | _ => .unit
          let O : Old := ⟨fn.ntmps, C0.w, C0.RO, fun k => ∃ j, j < bs.length ∧ C0.φ (1000 + j) = k, C0.φ, tys⟩
          have lk : ∀ d b, look C0.si d = some b → ∃ j, j < bs.length ∧ d = 1000 + j ∧ bs[j]? = some b := by
            intro d b hd
            rw [hsi, look_number] at hd
            split at hd
            · have := (List.getElem?_eq_some_iff.1 hd).1
              exact ⟨d - 1000, this, by omega, hd⟩
            · cases hd
          have hi : Inv O (enter args bs) { tmps := vals.toArray ++ Array.replicate (fn.ntmps - vals.toArray.size) undef, defers := [] } C0 := by
            refine ⟨hsi, fun t v ht => ?_, ?_, rfl, ⟨hW, rfl, rfl, rfl, Nat.le_refl _, fun _ _ _ => rfl, Keep.refl _ _, fun _ _ h => .inl h, fun d b k hd hk => ?_, fun j t v hj hd => ?_⟩⟩
            · have ht : look (enter.number 0 args) t = some v := ht
              rw [look_number, if_pos (Nat.zero_le _), Nat.sub_zero] at ht
              obtain ⟨x, hx1, hx2⟩ := hr.get ht
              have : (vals.toArray ++ Array.replicate (fn.ntmps - vals.toArray.size) undef).getD t undef = x := by
                have hlt := (List.getElem?_eq_some_iff.1 hx1).1
                rw [Array.getD_eq_getD_getElem?, Array.getElem?_append_left (by simpa using hlt)]
                simp [hx1]
              rw [this]
              exact hx2
            · show (vals.toArray ++ Array.replicate (fn.ntmps - vals.toArray.size) undef).size = fn.ntmps
              simp
              omega
            · obtain ⟨j, hj, rfl, hbj⟩ := lk d b hd
              obtain ⟨t, x, rfl⟩ := hbx b (List.mem_of_getElem? hbj)
              simp only [blkOf, Option.some.injEq] at hk
              exact .inr ⟨⟨j, hj, hk⟩, by omega, by omega, t, _, rfl⟩
            · obtain ⟨j', hj', he, hbj⟩ := lk _ _ hd
              have : j = j' := by omega
              subst this
              refine ⟨by show j < (bs.map _).length; simpa using hj', ?_, rfl⟩
              show (bs.map _)[j]? = _
              rw [List.getElem?_map, hbj]
              rfl
          refine ⟨.enter f vals.toArray, C0.w, ?_, ?_⟩
          · unfold callFunc
            have hbn : fn.body.isNone = false := by rw [hb]; rfl
            have hp : (program).run E.P C0.w = .ok E.P C0.w := rfl
            simp only [Sem.run_bind, hp, Result.andThen_ok, hf, hE.noG f fn hf, hbn, Bool.false_eq_true, if_false, Sem.run_pure]
          · refine calls_of_wp hf hb (den_sound (O := O) hE.ok hX hL hf rfl (Nat.le_of_lt h2) hG c _ _ _ _ C0 hi h _ fun e st' a' C' hK hi' => ?_)
            have key : ∀ e, e ≠ .normal → fin E f fn bs.length e st' = some r → True := fun _ _ _ => trivial
            have hq : (e = .normal ∨ e = .ret) ∧ (finQ E f fn bs.length).ev st' = some r := by
              cases e with
              | exit id => simp [fin] at hK
              | normal =>
                refine ⟨.inl rfl, ?_⟩
                have hK : (finQ E f fn bs.length).run st' [] (fun r _ => some r) = some r := hK
                rw [Cdm.Q.run_eq] at hK
                cases hv : (finQ E f fn bs.length).ev st' with
                | none => rw [hv] at hK; cases hK
                | some r' => rw [hv] at hK; exact hK
              | ret =>
                refine ⟨.inr rfl, ?_⟩
                have hK : (finQ E f fn bs.length).run st' [] (fun r _ => some r) = some r := hK
                rw [Cdm.Q.run_eq] at hK
                cases hv : (finQ E f fn bs.length).ev st' with
                | none => rw [hv] at hK; cases hK
                | some r' => rw [hv] at hK; exact hK
            obtain ⟨v, hrun, C2, us, hw2, hret, hsi2, hus, hv⟩ := fin_sound hE.ok (O := O) (C0 := C0) rfl rfl rfl (fun k => Iff.rfl) h3 hi' hq.2
            have post : a'.defers = [] ∧ ∃ v, (results fn a'.tmps).run E.P C'.w = .ok v C'.w ∧ ∃ C1 us, C1.w = C'.w ∧ RetOk C0 bs.length C1 ∧ C1.si = enter.number 1000 r.2 ∧ RAs C1 r.1 us ∧ v = tup us :=
              ⟨hi'.defers, v, hrun, C2, us, hw2, hret, hsi2, hus, hv⟩
            rcases hq.1 with rfl | rfl
            · exact post
            · exact post

/-! ### With fuel -/
def orc (E : Env) : Nat → Orc
  | 0 => ⟨fun _ _ _ => none, fun _ _ _ _ => none⟩
  | n + 1 => ⟨body E (orc E n), lbody E (orc E n)⟩
theorem orc_sound (hE : EnvOk2 E) : ∀ n, CallsOk E (orc E n) ∧ LoopsOk E (orc E n)
  | 0 => ⟨fun _ _ _ _ h => (by cases h), (by intro f c h st e st' hb; cases hb)⟩
  | n + 1 => by
    obtain ⟨h1, h2⟩ := orc_sound hE n
    exact ⟨fun f args bs r h => body_sound hE h1 h2 h, fun f c h st e st' hb => lbody_sound hE.ok h1 h2 hb⟩
theorem machine_sound (hE : EnvOk2 E) {n : Nat} {f : FuncId} {args : List AV} {bs : List Blk} {r : Ret} (h : (orc E n).call f args bs = some r) : CallOk E.P f args bs r := (orc_sound hE n).1 f args bs r h
end Go.Proofs.Cdm
