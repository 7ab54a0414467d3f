/-
What the library's own functions come to: slices.Clone.
-/
import Derived.Test.YtagmelohcilicaaGreatDoorCv26
import Derived.Lib.Bytealg
namespace Go.Proofs.Cdm
open Go Go.RowKit

/-- A call's contract, from the machine's own: nothing is handed over, data come back. -/
theorem callOk_of {P : Program} {f : FuncId} {fn : Func} {args : List AV} {r : List AV} (hf : P.funcs[f]? = some fn) (hb : fn.body.isNone = false) (hname : (fn.name == "runtime.NumGoroutine") = false)
    (h : ∀ (C0 : Ctx) (vals : List Value), C0.si = [] → GlobOk P C0.w C0.RO → RAs C0 args vals → WOk C0 → Calls P f vals.toArray C0.w fun e w' => ∃ (RO' : Nat → Nat → Prop) (us : List Value), e = .returned (tup us) ∧ Below C0.w.heap.size C0.w w' ∧ (∀ b o, C0.RO b o → RO' b o) ∧
      (∀ b o, RO' b o → C0.RO b o ∨ (C0.w.heap.size ≤ b ∧ b < w'.heap.size)) ∧ RAs ⟨w', RO', [], C0.φ, C0.ν⟩ r us) : CallOk P f args [] (r, []) := by
  intro C0 vals hsi _ hG hr hW
  refine ⟨.enter f vals.toArray, C0.w, ?_, Calls.mono' (h C0 vals hsi hG hr hW) fun e w' he => ?_⟩
  · unfold callFunc
    have hp : (program).run P C0.w = .ok P C0.w := rfl
    simp only [Sem.run_bind, hp, Result.andThen_ok, hf, hname, hb, Bool.false_eq_true, if_false, Sem.run_pure]
  · obtain ⟨RO', us, rfl, hbl, h1, h2, h3⟩ := he
    refine ⟨⟨w', RO', [], C0.φ, C0.ν⟩, us, rfl, ⟨⟨fun d b hd => by simp [look_nil] at hd, fun d d' b b' k hd => by simp [look_nil] at hd, fun b o hr => ?_⟩, hbl.os, hbl.tape, hbl.output, hbl.size, fun b hb _ => hbl.block b hb, h1, fun b o hr => ?_, fun j hj => by simp at hj, fun d b k hd => by simp [look_nil] at hd⟩, rfl, h3, rfl⟩
    · rcases h2 b o hr with hr | ⟨_, hr⟩
      · exact Nat.lt_of_lt_of_le (hW.ro b o hr) hbl.size
      · exact hr
    · rcases h2 b o hr with hr | ⟨hr, _⟩
      · exact .inl hr
      · exact .inr hr

def extClone (u : Ty) (bytes : Nat) (args : List AV) (bs : List Blk) : Option Ret :=
  match args, bs with
  | [.ro (.slice s) l], [] => bif decide (s = u) && Nat.ble (l.length * bytes) 140737488355328 then some ([.ro (.slice s) l], []) else none
  | _, _ => none
theorem clone_ok {P : Program} {f : FuncId} {fn : Func} {u : Ty} {e : TypeId} {bytes : Nat} (hf : P.funcs[f]? = some fn) (hb : fn.body.isNone = false) (hname : (fn.name == "runtime.NumGoroutine") = false) (hz : 0 < u.size)
    (h1 : ∀ (b off n c : Nat) (news : List Value) (w : World), news.length = n * u.size → n ≤ maxLen → n * bytes ≤ 140737488355328 → (∀ j v, news[j]? = some v → w.cell? ⟨b, off + j, none⟩ = some v) → (∀ v ∈ news, v.oneCell' = true) →
      Calls P f #[.slice (some ⟨b, off, none⟩) n c] w fun x w' => ∃ v', x = .returned v' ∧ w'.ownsRow w.heap.size e u.size v' n news ∧ Below w.heap.size w w')
    (h2 : ∀ (n c : Nat) (w : World), Calls P f #[.slice none n c] w fun x w' => x = .returned (.slice none 0 0) ∧ w' = w) :
    ∀ args bs r, extClone u bytes args bs = some r → CallOk P f args bs r := by
  intro args bs r h
  unfold extClone at h
  split at h
  · rename_i s l
    cases hc : (decide (s = u) && Nat.ble (l.length * bytes) 140737488355328) with
    | false => rw [hc] at h; cases h
    | true =>
      rw [hc] at h
      simp only [cond_true, Option.some.injEq] at h
      subst h
      rw [Bool.and_eq_true, decide_eq_true_eq] at hc
      obtain ⟨rfl, hle⟩ := hc
      have hle := Nat.le_of_ble_eq_true hle
      refine callOk_of hf hb hname fun C0 vals _ _ hr hW => ?_
      match vals, hr with
      | [val], hr =>
      have hsv := hr.1.slice
      obtain ⟨hwl, hlim, us, hreps, hcase⟩ := hsv
      have some_ : ∀ (b off c : Nat), val = .slice (some ⟨b, off, none⟩) l.length c → (∀ j v, us[j]? = some v → C0.w.cell? ⟨b, off + j, none⟩ = some v) → Calls P f #[val] C0.w fun x w' => ∃ (RO' : Nat → Nat → Prop) (us : List Value), x = .returned (tup us) ∧ Below C0.w.heap.size C0.w w' ∧ (∀ b o, C0.RO b o → RO' b o) ∧
          (∀ b o, RO' b o → C0.RO b o ∨ (C0.w.heap.size ≤ b ∧ b < w'.heap.size)) ∧ RAs ⟨w', RO', [], C0.φ, C0.ν⟩ [.ro (.slice s) l] us := by
        intro b off c hv hcell
        have hlen : us.length = l.length * s.size := by rw [← hreps.1]; exact length_flatMap_of _ _ _ (fun x hx => length_enc s x (hwl x hx))
        rw [hv]
        refine Calls.mono' (h1 b off l.length c us C0.w hlen (by simp only [LIM] at hlim; simp only [maxLen]; omega) hle hcell hreps.oneCell) fun x w' hx => ?_
        obtain ⟨v', rfl, hown, hbl⟩ := hx
        have hkeep : Keep C0.w w' C0.RO C0.RO := ⟨fun _ _ h => h, fun b o v hro hcv => by rw [cell_of_heap (hbl.block b (hW.ro b o hro))]; exact hcv⟩
        rcases hown.2 with ⟨rfl, hn⟩ | ⟨g, cap, cur, rfl, hg0, hg, hnc, hcm, hcs, htake⟩
        · have : l = [] := List.eq_nil_of_length_eq_zero hn
          subst this
          exact ⟨C0.RO, [.slice none 0 0], rfl, hbl, fun _ _ h => h, fun _ _ h => .inl h, .inr ⟨[_], ⟨fun x hx => (by cases hx), Reps.one (by exact .sl0 _ _ rfl)⟩, rfl⟩, trivial⟩
        · refine ⟨fun b o => C0.RO b o ∨ (b = g ∧ o < l.length * s.size), [.slice (some ⟨g, 0, none⟩) l.length cap], rfl, hbl, fun _ _ h => .inl h, fun b o h => ?_, ?_, trivial⟩
          · rcases h with h | ⟨rfl, _⟩
            · exact .inl h
            · exact .inr ⟨hg0, (Array.getElem?_eq_some_iff.1 hg).1⟩
          · refine .inr ⟨[_], ⟨hwl, ?_⟩, rfl⟩
            simp only [enc]
            refine Reps.one ?_
            rcases Nat.eq_zero_or_pos l.length with h0 | h0
            · have : l = [] := List.eq_nil_of_length_eq_zero h0
              subst this
              simp only [List.length_nil, List.flatMap_nil]
              exact .sl0 _ _ rfl
            · have hk2 : Keep C0.w w' C0.RO (fun b o => C0.RO b o ∨ (b = g ∧ o < l.length * s.size)) := ⟨fun _ _ h => .inl h, hkeep.cell⟩
              have hr2 := hreps.keep hk2
              refine .sl l.length _ g 0 cap (fun j => us.getD j undef) h0 hlim hnc (fun j hj => ?_) (fun j hj => .inr ⟨rfl, by rw [Nat.zero_add, ← hlen, ← hreps.1]; exact hj⟩) (fun j hj => ?_)
              · have hj' : j < us.length := by rw [← hreps.1]; exact hj
                rw [cell_of_row w' g _ cur e (0, 0) hg, Nat.zero_add]
                have : cur.toList[j]? = us[j]? := by rw [← htake, List.getElem?_take, if_pos (by omega)]
                rw [← Array.getElem?_toList, this]
                simp [hj']
              · have hj' : j < us.length := by rw [← hreps.1]; exact hj
                have := hr2.2 j hj hj'
                simpa [hj'] using this
      rcases hcase with ⟨rfl, A, c, hA, hv⟩ | ⟨b, off, c, hv, _, hcell⟩
      · cases A with
        | none =>
          subst hv
          refine Calls.mono' (h2 0 c C0.w) fun x w' hx => ?_
          obtain ⟨rfl, rfl⟩ := hx
          exact ⟨C0.RO, [.slice none 0 0], rfl, Below.refl _ _, fun _ _ h => h, fun _ _ h => .inl h, .inr ⟨[_], ⟨fun x hx => (by cases hx), Reps.one (by exact .sl0 _ _ rfl)⟩, rfl⟩, trivial⟩
        | some ad =>
          obtain ⟨b, off, sp⟩ := ad
          cases sp with
          | some s => simp [plainA] at hA
          | none => exact some_ b off c hv (fun j v hj => by have : us = [] := List.eq_nil_of_length_eq_zero (by rw [← hreps.1]; simp); subst this; simp at hj)
      · exact some_ b off c hv hcell
  · cases h

def extIdx (args : List AV) (bs : List Blk) : Option Ret :=
  match args, bs with
  | [.ro .str s, .ro (.int .u8) n], [] => some ([.ro (.int .i64) (Lib.indexByte s (n : Int).toNat.toUInt8)], [])
  | _, _ => none
theorem idx_ok {P : Program} {f : FuncId} {fn : Func} (hf : P.funcs[f]? = some fn) (hname : (fn.name == "runtime.NumGoroutine") = false) (hb : fn.body.isNone = true) (hn : Extern.findNext fn = none) (he : Extern.find fn = some Extern.BytealgIndexByte.indexByte) :
    ∀ args bs r, extIdx args bs = some r → CallOk P f args bs r := by
  intro args bs r h
  unfold extIdx at h
  split at h
  · rename_i s n
    simp only [Option.some.injEq] at h
    subst h
    intro C0 vals hsi _ hG hr hW
    match vals, hr with
    | [x, y], hr =>
    obtain ⟨ex, _⟩ := hr.1.str
    have ey := hr.2.1.int
    subst ex ey
    refine ⟨.value (.int .i64 (Lib.indexByte s (n : Int).toNat.toUInt8)), C0.w, ?_, ?_⟩
    · rw [run_callFunc_extern hf hname hb hn he]
      have := Lib.run_indexByteString (P := P) ⟨s.toArray⟩ n C0.w
      rw [this]
      rfl
    · refine ⟨C0, [_], rfl, ⟨hW, rfl, rfl, rfl, Nat.le_refl _, fun _ _ _ => rfl, fun _ _ h => h, fun _ _ h => .inl h, fun _ _ => rfl, fun d b k hd => ?_⟩, hsi, ⟨.ofInt _ _, trivial⟩, rfl⟩
      rw [hsi] at hd
      simp [enter.number, look_nil] at hd
  · cases h
end Go.Proofs.Cdm
