/-
Part of the proof: what a library's function comes to, in this seat.
-/
import Derived.Test.YtagmelohcilicaaGreatDoorB
namespace Go.Proofs.Cdm
open Go Go.RowKit Go.Extern
set_option maxRecDepth 100000

theorem As_nil (t : Value) (w : World) : Calls Tryz.prog 42 #[.nilIface, t] w fun e w' => e = .returned (.bool false) ∧ w' = w := by
  go_enter Tryz.func42, Tryz.ntmps42
  go_wp2
  go_ret
  exact ⟨rfl, rfl⟩
set_option maxHeartbeats 4000000 in
theorem As_ok {tt pt : TypeId} {ag : Bool} {fl : Int} (hT : AsT tt pt ag fl) (RO : Nat → Nat → Prop) (ta : Addr) (n : Nat) (W : World) (d : DV) (t : TypeId) (u : Value) (r : Option (Bool × List DV)) (old : Value)
    (hRO : ∀ b o, RO b o → b < W.heap.size) (hrep : Rep W RO d (.iface t u)) (hfind : findD errT tt n d = some r) (hr : ∀ y, r = some y → y.1 = ag ∧ ∃ d, y.2 = [d])
    (hg : W.cell? ⟨0, 0, none⟩ = some (.iface 132 (.agg #[typeHandle Tryz.prog 70]))) (hta : W.cell? ta = some old) (hfr : W.frozen? ta = false) :
    Calls Tryz.prog 42 #[.iface t u, .iface pt (.pointer (some ta))] W (AsPost RO W ta r) := by
  have h60 := @run_callFunc_extern Tryz.prog 60 _ (fun args => ReflectliteValue.unpack (args.getD 0 (.tuple #[]))) Tryz.func60 (by kernel_rfl) (by kernel_rfl) (by kernel_rfl) (by kernel_rfl)
  have h61 := @run_callFunc_extern Tryz.prog 61 _ (ReflectliteValue.methodAny (ReflectliteValue.valueError "reflectlite.Value.Type" 0) (fun t _ _ _ => ReflectliteType.toType t)) Tryz.func61 (by kernel_rfl) (by kernel_rfl) (by kernel_rfl) (by kernel_rfl)
  have h62 := @run_callFunc_extern Tryz.prog 62 _ (ReflectliteValue.method (ReflectliteValue.valueError "reflectlite.Value.IsNil" 0) ReflectliteValue.isNil) Tryz.func62 (by kernel_rfl) (by kernel_rfl) (by kernel_rfl) (by kernel_rfl)
  have h132 := @run_callFunc_extern Tryz.prog 132 _ (ReflectliteType.abiMethod fun t => do pure (.int .u8 (← Rtype.kind t))) Tryz.func132 (by kernel_rfl) (by kernel_rfl) (by kernel_rfl) (by kernel_rfl)
  have h145 := @run_callFunc_extern Tryz.prog 145 _ (ReflectliteType.method ReflectliteType.elem) Tryz.func145 (by kernel_rfl) (by kernel_rfl) (by kernel_rfl) (by kernel_rfl)
  have h146 := @run_callFunc_extern Tryz.prog 146 _ (ReflectliteType.relation "Implements" ReflectliteType.implements_) Tryz.func146 (by kernel_rfl) (by kernel_rfl) (by kernel_rfl) (by kernel_rfl)
  have mK : ∀ (h : Value) (w : World), (method 312 132 (.agg #[h]) "Kind").run Tryz.prog w = .ok (132, h) w := fun h w => by kernel_rfl
  have mE : ∀ (h : Value) (w : World), (method 312 132 (.agg #[h]) "Elem").run Tryz.prog w = .ok (145, .agg #[h]) w := fun h w => by kernel_rfl
  have mI : ∀ (h : Value) (w : World), (method 312 132 (.agg #[h]) "Implements").run Tryz.prog w = .ok (146, .agg #[h]) w := fun h w => by kernel_rfl
  have f60 := hT.valueOfP
  have f61 := hT.type
  have kP := hT.kindP
  obtain ⟨k, hk20, kT⟩ := hT.kindT
  have eT := hT.elemT
  have iT := hT.impl
  have hlt : 0 < W.heap.size := cell_lt hg
  have htl := cell_lt hta
  have hH : ∀ t, typeHandle Tryz.prog t = .pointer (some ⟨4, t, none⟩) := fun t => by kernel_rfl
  let W1 := W.alloc (.cells #[.pointer (some ta)] pt)
  let W2 := W1.alloc (.cells #[typeHandle Tryz.prog pt, .pointer (some ⟨W.heap.size, 0, none⟩), .int .u64 150] 108)
  have hsz1 : W1.heap.size = W.heap.size + 1 := by simp [W1]
  have b1 : Below W.heap.size W W1 := (Below.refl _ _).alloc (Nat.le_refl _) _
  have b2 : Below W.heap.size W W2 := b1.alloc (by omega) _
  have hg2 : W2.cell? ⟨0, 0, none⟩ = some (.iface 132 (.agg #[typeHandle Tryz.prog 70])) := by rw [b2.cell hlt]; exact hg
  have hv2 : W2.cell? ⟨W.heap.size, 0, none⟩ = some (.pointer (some ta)) := by
    show (W1.alloc _).cell? _ = _
    rw [World.cell?_alloc_lt _ _ ⟨W.heap.size, 0, none⟩ (by show W.heap.size < W1.heap.size; omega)]
    exact World.cell?_alloc_at _ _ _ _ (by simp)
  have n62 := hT.isNil ⟨W.heap.size, 0, none⟩ ta W2 hv2
  have hcall := as_ok hT RO ta n W2 d (.iface t u) r W.heap.size old (fun b o h => Nat.lt_of_lt_of_le (hRO b o h) b2.size) (hrep.grow hRO b2) hfind hr hv2 (by rw [b2.cell htl]; exact hta) (by rw [b2.frozen htl]; exact hfr)
  simp only [W1, W2, hH] at f60 f61 kP kT eT iT n62 hg2 hcall
  cases r with
  | none =>
    go_enter Tryz.func42, Tryz.ntmps42
    go_wp2_with (go_at_call 63; refine hcall.mono ?_; rintro e w' ⟨rfl, hb⟩)
    go_ret
    exact ⟨rfl, b2.trans (Below.mono hb b2.size)⟩
  | some y =>
    go_enter Tryz.func42, Tryz.ntmps42
    go_wp2_with (go_at_call 63; refine hcall.mono ?_; rintro e w' ⟨rfl, w1, d1, x1, h1, h2, hb, rfl⟩)
    go_ret
    exact ⟨rfl, w1, d1, x1, h1, h2, b2.trans (Below.mono hb b2.size), rfl⟩
end Go.Proofs.Cdm
