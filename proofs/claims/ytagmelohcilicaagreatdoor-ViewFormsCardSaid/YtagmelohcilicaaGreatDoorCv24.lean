/-
Code, loops, and a call from end to end.
-/
import Derived.Test.YtagmelohcilicaaGreatDoorCv23
namespace Go.Proofs.Cdm
open Go Go.RowKit
variable {E : Env} {O : Old} {st : St} {a : Act} {C : Ctx}

def Ex.out : Ex → Exit
  | .normal => .normal
  | .ret => .ret
  | .exit id => .exit id
/-- A loop, its body being about to run. -/
def LoopWp (P : Program) (c : Code) (Q : Exit → Act → World → Prop) (a : Act) (w : World) : Prop :=
  ∀ (b : Frame) (k : List Item) (cs : List Frame), ∃ e a' w', Q e a' w' ∧ Arrives P (lone (b.at a (.code c :: .inLoop c :: k)) cs w) b k cs e a' w'
theorem wp_loop' {P : Program} {c : Code} {Q : Exit → Act → World → Prop} {a : Act} {w : World} (h : LoopWp P c Q a w) : (Code.loop c).wp P Q a w :=
  fun b k cs => let ⟨e, a', w', q, r⟩ := h b k cs; ⟨e, a', w', q, .of_steps (.one step_loop) r⟩
def Exit.again (next : Act → World → Prop) (Q : Exit → Act → World → Prop) : Exit → Act → World → Prop
  | .normal, a, w => next a w
  | e, a, w => Q e a w
theorem loop_round {P : Program} {c : Code} {Q : Exit → Act → World → Prop} {a : Act} {w : World} (h : c.wp P (Exit.again (LoopWp P c Q) Q) a w) : LoopWp P c Q a w := by
  intro b k cs
  obtain ⟨e, a₁, w₁, hq, harr⟩ := h b (.inLoop c :: k) cs
  cases e with
  | normal =>
    obtain ⟨e₂, a₂, w₂, hq₂, harr₂⟩ := hq b k cs
    exact ⟨e₂, a₂, w₂, hq₂, .of_steps (Steps.trans harr (.one step_inLoop)) harr₂⟩
  | exit id => exact ⟨_, a₁, w₁, hq, .pass (x := .inLoop c) rfl (fun _ _ => .inl (by simp)) harr⟩
  | goto l => exact ⟨_, a₁, w₁, hq, .pass (x := .inLoop c) rfl (fun _ _ => .inl (by simp)) harr⟩
  | ret => exact ⟨_, a₁, w₁, hq, .pass (x := .inLoop c) rfl (fun _ _ => .inl (by simp)) harr⟩
  | panic ch => exact ⟨_, a₁, w₁, hq, .pass (x := .inLoop c) rfl (fun _ _ => .inl (by simp)) harr⟩
  | outgrown => exact ⟨_, a₁, w₁, hq, .pass (x := .inLoop c) rfl (fun _ _ => .inl (by simp)) harr⟩
def LoopsOk (E : Env) (X : Orc) : Prop := ∀ f c h st e st', X.loop f c h st = some (e, st') → ∀ (fn : Func) (O : Old) (a : Act) (C : Ctx), E.P.funcs[f]? = some fn → O.n = fn.ntmps → O.n ≤ 1000 → GlobOk E.P O.w0 O.RO0 → Inv O st a C →
  ∀ Q : Exit → Act → World → Prop, (∀ a' C', Inv O st' a' C' → Q e.out a' C'.w) → LoopWp E.P c Q a C.w

theorem den_sound {R : Type} {X : Orc} {r : R} {f : FuncId} {fn : Func} (hE : EnvOk E) (hX : CallsOk E X) (hL : LoopsOk E X) (hf : E.P.funcs[f]? = some fn) (hn : O.n = fn.ntmps) (hO : O.n ≤ 1000) (hG : GlobOk E.P O.w0 O.RO0) :
    ∀ (c : Code) (h : Ann) (K : Ex → St → Option R) (st : St) (a : Act) (C : Ctx), Inv O st a C → den E X O.n f c h K st = some r →
      ∀ Q : Exit → Act → World → Prop, (∀ e st' a' C', K e st' = some r → Inv O st' a' C' → Q e.out a' C'.w) → c.wp E.P Q a C.w := by
  intro c
  induction c with
  | skip => intro h K st a C hi hd Q hQ; exact wp_skip (hQ .normal st a C (by simpa [den] using hd) hi)
  | region id ops draw =>
    intro h K st a C hi hd Q hQ
    obtain ⟨st', h1, h2⟩ := region_wp hE hX hG hO hi hd
    exact h2 Q fun a' C' hi' => hQ .normal st' a' C' h1 hi'
  | seq x y ihx ihy =>
    intro h K st a C hi hd Q hQ
    simp only [den] at hd
    refine wp_seq (ihx _ _ st a C hi hd _ fun e st' a' C' hK hi' => ?_)
    cases e with
    | normal =>
      obtain ⟨C2, e2, hi2⟩ := norm_sound h hi'
      show y.wp E.P Q a' C'.w
      rw [← e2]
      exact ihy _ _ _ a' C2 hi2 hK Q hQ
    | ret => exact hQ .ret st' a' C' hK hi'
    | exit id => exact hQ (.exit id) st' a' C' hK hi'
  | cond b x y ihx ihy =>
    intro h K st a C hi hd Q hQ
    simp only [den] at hd
    rw [Cdm.Q.run_eq, Option.bind_eq_some_iff] at hd
    obtain ⟨t, h1, h2⟩ := hd
    obtain ⟨v, h3, hv⟩ := opd_sound hi h1
    obtain ⟨t', rfl, h4⟩ := asBool_ev h3
    simp only [Cdm.Q.ev, Option.some.injEq] at h4
    subst h4
    refine wp_cond hv.bool ?_
    cases t' with
    | true => exact ihx _ _ st a C hi h2 Q hQ
    | false => exact ihy _ _ st a C hi h2 Q hQ
  | block id x ih =>
    intro h K st a C hi hd Q hQ
    simp only [den] at hd
    refine wp_block (ih _ _ st a C hi hd _ fun e st' a' C' hK hi' => ?_)
    cases e with
    | normal => exact hQ .normal st' a' C' hK hi'
    | ret => exact hQ .ret st' a' C' hK hi'
    | exit j =>
      simp only [Ex.out, Exit.inBlock]
      simp only at hK
      cases hb : Nat.beq j id with
      | true =>
        rw [hb] at hK
        rw [if_pos (Nat.eq_of_beq_eq_true hb)]
        exact hQ .normal st' a' C' hK hi'
      | false =>
        rw [hb] at hK
        rw [if_neg (fun e => by rw [e, Nat.beq_refl] at hb; cases hb)]
        exact hQ (.exit j) st' a' C' hK hi'
  | loop x ih =>
    intro h K st a C hi hd Q hQ
    simp only [den, Option.bind_eq_some_iff] at hd
    obtain ⟨⟨e, st'⟩, h1, h2⟩ := hd
    obtain ⟨C2, e2, hi2⟩ := norm_sound h hi
    rw [← e2]
    exact wp_loop' (hL f x h _ e st' h1 fn O a C2 hf hn hO hG hi2 Q fun a' C' hi' => hQ e st' a' C' h2 hi')
  | exit id => intro h K st a C hi hd Q hQ; exact wp_exit (hQ (.exit id) st a C (by simpa [den] using hd) hi)
  | ret => intro h K st a C hi hd Q hQ; exact wp_ret (hQ .ret st a C (by simpa [den] using hd) hi)
  | _ => intro h K st a C hi hd; simp [den] at hd

theorem lbody_sound {X : Orc} {f : FuncId} {c : Code} {h : Ann} {st st' : St} {e : Ex} (hE : EnvOk E) (hX : CallsOk E X) (hL : LoopsOk E X) (hb : lbody E X f c h st = some (e, st')) :
    ∀ (fn : Func) (O : Old) (a : Act) (C : Ctx), E.P.funcs[f]? = some fn → O.n = fn.ntmps → O.n ≤ 1000 → GlobOk E.P O.w0 O.RO0 → Inv O st a C → ∀ Q : Exit → Act → World → Prop, (∀ a' C', Inv O st' a' C' → Q e.out a' C'.w) → LoopWp E.P c Q a C.w := by
  intro fn O a C hf hn hO hG hi Q hQ
  unfold lbody at hb
  rw [hf] at hb
  simp only [← hn] at hb
  refine loop_round (den_sound hE hX hL hf hn hO hG c _ _ st a C hi hb _ fun e1 st1 a1 C1 hK hi1 => ?_)
  cases e1 with
  | normal =>
    obtain ⟨C2, e2, hi2⟩ := norm_sound h hi1
    show LoopWp E.P c Q a1 C1.w
    rw [← e2]
    exact hL f c h _ e st' hK fn O a1 C2 hf hn hO hG hi2 Q hQ
  | ret =>
    simp only [Option.some.injEq, Prod.mk.injEq] at hK
    obtain ⟨rfl, rfl⟩ := hK
    exact hQ a1 C1 hi1
  | exit id =>
    simp only [Option.some.injEq, Prod.mk.injEq] at hK
    obtain ⟨rfl, rfl⟩ := hK
    exact hQ a1 C1 hi1
end Go.Proofs.Cdm
