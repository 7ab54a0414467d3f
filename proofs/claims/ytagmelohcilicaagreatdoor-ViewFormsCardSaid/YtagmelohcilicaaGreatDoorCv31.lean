/-
From the machine's contracts to a row's.
-/
import Derived.Test.YtagmelohcilicaaGreatDoorCv30
import Derived.WalkKit
import Derived.ProofKit
import Derived.OpenShut
namespace Go.Proofs.Cdm
open Go Go.RowKit

theorem RetOk.below {C0 C' : Ctx} (h : RetOk C0 0 C') : Below C0.w.heap.size C0.w C'.w := ⟨h.os, h.tape, h.output, h.grow, fun k hk => h.old k hk (fun j hj => by omega)⟩
theorem calls_of_ok {P : Program} {f : FuncId} {fn : Func} {args : List AV} {r : Ret} (hf : P.funcs[f]? = some fn) (hname : (fn.name == "runtime.NumGoroutine") = false) (hb : fn.body.isNone = false) (h : CallOk P f args [] r) {C0 : Ctx} {vals : List Value}
    (hsi : C0.si = []) (hG : GlobOk P C0.w C0.RO) (hr : RAs C0 args vals) (hro : ∀ b o, C0.RO b o → b < C0.w.heap.size) :
    Calls P f vals.toArray C0.w fun e w' => ∃ C' us, C'.w = w' ∧ Below C0.w.heap.size C0.w w' ∧ RAs C' r.1 us ∧ e = .returned (tup us) := by
  obtain ⟨nx, w1, h1, h2⟩ := h C0 vals hsi (fun b hb => by cases hb) hG hr ⟨fun d b hd => by rw [hsi] at hd; simp [look_nil] at hd, fun d d' b b' k hd => by rw [hsi] at hd; simp [look_nil] at hd, hro⟩
  rw [enterF hf hname hb] at h1
  injection h1 with h1 h3
  subst h1 h3
  refine Calls.mono' h2 fun e w' he => ?_
  cases e with
  | returned v =>
    obtain ⟨C', us, rfl, hret, _, hus, rfl⟩ := he
    exact ⟨C', us, rfl, hret.below, hus, rfl⟩
  | _ => exact he.elim
/-- A closed function that comes to a bool. -/
theorem closed_ok {P : Program} {f : FuncId} {fn : Func} {b : Bool} (hf : P.funcs[f]? = some fn) (hname : (fn.name == "runtime.NumGoroutine") = false) (hb : fn.body.isNone = false) (h : CallOk P f [] [] ([.ro .bool b], [])) {W : World} {g : Nat} {gv : Value}
    (hu : ∀ g' v', glob P g' v' → g' = g ∧ v' = gv) (hc : W.cell? ⟨g, 0, none⟩ = some gv) :
    Calls P f #[] W fun e w' => e = .returned (.bool b) ∧ Below W.heap.size W w' := by
  have hlt := cell_lt hc
  refine Calls.mono' (calls_of_ok (C0 := ⟨W, fun b o => b = g ∧ o = 0, [], fun _ => 0, fun _ => undef⟩) (vals := []) hf hname hb h rfl (fun g' v' hg => ?_) trivial (fun b o hbo => ?_)) fun e w' he => ?_
  · obtain ⟨rfl, rfl⟩ := hu g' v' hg
    exact ⟨⟨rfl, rfl⟩, hc⟩
  · obtain ⟨rfl, rfl⟩ := hbo
    exact hlt
  · obtain ⟨C', us, rfl, hbl, hus, rfl⟩ := he
    match us, hus with
    | [u], hus =>
      obtain rfl := RA.bool hus.1
      exact ⟨rfl, hbl⟩

open Go.ChangeShapes Go.WideShapes Go.ChangeAt in
/-- A row's end, where what was there is as it was. -/
theorem post_of_below {H : Type} {enc : TypeId × Value → H} {P : Program} {f : Func} {s : ChangeSpec} {apart fresh handsOn again : Bool} {W W' : World} {args : Array Value} {v : Value} {ds gs : List (DataW H)} {before pa pv : List MemPlace}
    (hW : DataW.Whole enc P f.params.toList s.vars apart W args.toList ds gs before)
    (hres : ∀ (b : Nat) (sp : Nat → Bool) (hd : Bool), DataW.TrodAll enc P W' b sp hd f.resultTypes.toList (v.resultList f.resultTypes.size) (s.fn H (ds ++ gs)).results [])
    (hargs : ∀ sp : Nat → Bool, (∀ p ∈ before, sp p.block = true) → DataW.TrodAll enc P W' 0 sp true f.params.toList args.toList (s.fn H (ds ++ gs)).args pa)
    (hvars : ∀ sp : Nat → Bool, (∀ p ∈ before, sp p.block = true) → DataW.TrodVars enc P W' sp s.vars (s.fn H (ds ++ gs)).vars pv)
    (hps : before = pa ++ pv) (hb : Below W.heap.size W W')
    (hok : ∀ (j : Nat) (t : TypeId) (r : Value), f.resultTypes[j]? = some t → (v.resultList f.resultTypes.size)[j]? = some r → Value.okWide P W' .any 0 t r) :
    s.post enc P f apart fresh handsOn again W args v W' := by
  have hlt := hW.lt
  have hold : ∀ p ∈ before, (fun b => decide (b < W.heap.size)) p.block = true := fun p hp => by simpa using hlt p hp
  refine ⟨ds, gs, before, [], pa, pv, hW, hres _ _ _, hargs _ hold, hvars _ hold, hb.frame _, fun _ => ?_⟩
  obtain ⟨_, _, _, _, _, hz, hn⟩ := hW
  refine ⟨hok, _, _, ([] ++ pa) ++ pv, ⟨[] ++ pa, pv, trodAll_append (hargs _ (fun _ _ => rfl)) (hres _ _ _), hvars _ (fun _ _ => rfl), rfl, ?_, ?_⟩, ?_⟩
  · intro b off hp
    have hp' : MemPlace.cell b off ∈ before := by rw [hps]; simpa using hp
    rw [hb.frozen (hlt _ hp')]
    exact hz b off hp'
  · intro ha
    have := hn ha
    rw [hps] at this
    simpa using this
  · intro p hp _
    rw [hps]
    simpa using hp
end Go.Proofs.Cdm
