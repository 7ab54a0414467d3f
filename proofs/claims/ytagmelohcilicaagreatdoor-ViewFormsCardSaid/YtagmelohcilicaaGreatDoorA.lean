/-
Part of the proof: what a library's function comes to, in this seat.
-/
import Derived.Test.YtagmelohcilicaaGreatDoorI
namespace Go.Proofs.Cdm
open Go Go.RowKit Go.Extern
set_option maxRecDepth 100000
def mkV : Bool → Value → Value
  | true, x => .agg #[x]
  | false, x => x

theorem rlm (z : Sem Value) (f : TypeId → Addr → Nat → Nat → Sem Value) (v : Value) :
    ReflectliteValue.method z f #[v] = (do match ← ReflectliteValue.parts v with | none => z | some (t, a, fl) => f t a fl (fl % 32)) := rfl
theorem rls (v x : Value) : ReflectliteValue.set #[v, x] = (do
    let (some (dst, a, fl), some (src, b, _)) := (← ReflectliteValue.parts v, ← ReflectliteValue.parts x)
      | unsupported (.noEntry "extern/(internal/reflectlite.Value).Set.zeroValue")
    if fl / ReflectliteValue.flagAddr % 2 == 0 then unsupported (.noEntry "extern/(internal/reflectlite.Value).Set.unaddressable")
    let val ← loadVar src b
    if ← Rtype.directlyAssignable dst src then storeVar dst a val
    else if ← Rtype.implements dst src then
      if (← Rtype.kind src) == 20 then
        match val with
        | .nilIface => unsupported (.noEntry "extern/reflectlite: a nil value of one interface type handed on as a value of another")
        | _ => storeVar dst a val
      else storeVar dst a (.iface src val)
    else panicString ("reflectlite.Set: value of type " ++ (← Rtype.spelt src) ++ " is not assignable to type " ++ (← Rtype.spelt dst))
    pure (.tuple #[])) := rfl

/-- What reflectlite's entries come to, at a target's type. -/
structure AsT (tt pt : TypeId) (ag : Bool) (fl : Int) : Prop where
  valueOfP : ∀ (t : Addr) (w : World), (ReflectliteValue.unpack (.iface pt (.pointer (some t)))).run Tryz.prog w
    = .ok (.agg #[typeHandle Tryz.prog pt, .pointer (some ⟨w.heap.size, 0, none⟩), .int .u64 150]) (w.alloc (.cells #[.pointer (some t)] pt))
  type : ∀ (a : Addr) (w : World), (ReflectliteValue.methodAny (ReflectliteValue.valueError "reflectlite.Value.Type" 0) (fun t _ _ _ => ReflectliteType.toType t) #[.agg #[typeHandle Tryz.prog pt, .pointer (some a), .int .u64 150]]).run Tryz.prog w
    = .ok (.iface 132 (.agg #[typeHandle Tryz.prog pt])) w
  kindP : ∀ w : World, ((ReflectliteType.abiMethod fun t => (fun a : Nat => Value.int IntKind.u8 (a : Int)) <$> Rtype.kind t) #[typeHandle Tryz.prog pt]).run Tryz.prog w = .ok (.int .u8 22) w
  kindT : ∃ k : Int, k ≠ 20 ∧ ∀ w : World, ((ReflectliteType.abiMethod fun t => (fun a : Nat => Value.int IntKind.u8 (a : Int)) <$> Rtype.kind t) #[typeHandle Tryz.prog tt]).run Tryz.prog w = .ok (.int .u8 k) w
  isNil : ∀ (a p : Addr) (W : World), W.cell? a = some (.pointer (some p)) →
    (ReflectliteValue.method (ReflectliteValue.valueError "reflectlite.Value.IsNil" 0) ReflectliteValue.isNil #[.agg #[typeHandle Tryz.prog pt, .pointer (some a), .int .u64 150]]).run Tryz.prog W = .ok (.bool false) W
  elemT : ∀ w : World, (ReflectliteType.method ReflectliteType.elem #[.agg #[typeHandle Tryz.prog pt]]).run Tryz.prog w = .ok (.iface 132 (.agg #[typeHandle Tryz.prog tt])) w
  impl : ∀ w : World, (ReflectliteType.relation "Implements" ReflectliteType.implements_ #[.agg #[typeHandle Tryz.prog tt], .iface 132 (.agg #[typeHandle Tryz.prog 70])]).run Tryz.prog w = .ok (.bool true) w
  assign : ∀ (t : TypeId) (k : EK), look errT t = some k → ∀ w : World, (ReflectliteType.relation "AssignableTo" ReflectliteType.assignableTo #[.agg #[typeHandle Tryz.prog t], .iface 132 (.agg #[typeHandle Tryz.prog tt])]).run Tryz.prog w = .ok (.bool (Nat.beq t tt)) w
  tag : ∃ k, look errT tt = some k
  valueOf : ∀ (x : Value) (w : World), x.cells = #[x] → (ReflectliteValue.unpack (.iface tt (mkV ag x))).run Tryz.prog w
    = .ok (.agg #[typeHandle Tryz.prog tt, .pointer (some ⟨w.heap.size, 0, none⟩), .int .u64 (fl + 128)]) (w.alloc (.cells #[x] tt))
  elemV : ∀ (a p : Addr) (W : World), W.cell? a = some (.pointer (some p)) →
    (ReflectliteValue.method (ReflectliteValue.valueError "reflectlite.Value.Elem" 0) ReflectliteValue.elem #[.agg #[typeHandle Tryz.prog pt, .pointer (some a), .int .u64 150]]).run Tryz.prog W
      = .ok (.agg #[typeHandle Tryz.prog tt, .pointer (some p), .int .u64 (fl + 384)]) W
  set : ∀ (ta : Addr) (b : Nat) (x old : Value) (W : World), x.cells = #[x] → x.oneCell' = true → W.cell? ⟨b, 0, none⟩ = some x → W.cell? ta = some old → W.frozen? ta = false →
    (ReflectliteValue.set #[.agg #[typeHandle Tryz.prog tt, .pointer (some ta), .int .u64 (fl + 384)], .agg #[typeHandle Tryz.prog tt, .pointer (some ⟨b, 0, none⟩), .int .u64 (fl + 128)]]).run Tryz.prog W = .ok (.tuple #[]) (W.setCell ta x)

theorem typeOfE : ∀ (t : TypeId) (k : EK), look errT t = some k → ∀ (v : Value) (w : World), (ReflectliteType.typeOf #[.iface t v]).run Tryz.prog w = .ok (.iface 132 (.agg #[typeHandle Tryz.prog t])) w := by
  intro t k h v w
  rfl


theorem parts79 (a : Addr) (w : World) : (ReflectliteValue.parts (.agg #[typeHandle Tryz.prog 79, .pointer (some a), .int .u64 150])).run Tryz.prog w = .ok (some (79, a, 150)) w := by kernel_rfl
theorem elemOf79 (w : World) : (Rtype.elem? 79).run Tryz.prog w = .ok (some 77) w := by kernel_rfl
theorem mk77 (p : Addr) (w : World) : (ReflectliteValue.mk 77 p ReflectliteValue.flagAddr).run Tryz.prog w = .ok (.agg #[typeHandle Tryz.prog 77, .pointer (some p), .int .u64 409]) w := by kernel_rfl
theorem parts77a (a : Addr) (w : World) : (ReflectliteValue.parts (.agg #[typeHandle Tryz.prog 77, .pointer (some a), .int .u64 409])).run Tryz.prog w = .ok (some (77, a, 409)) w := by kernel_rfl
theorem parts77 (a : Addr) (w : World) : (ReflectliteValue.parts (.agg #[typeHandle Tryz.prog 77, .pointer (some a), .int .u64 153])).run Tryz.prog w = .ok (some (77, a, 153)) w := by kernel_rfl
theorem direct77 (w : World) : (Rtype.directlyAssignable 77 77).run Tryz.prog w = .ok true w := by kernel_rfl
theorem size77 (w : World) : (sizeOf 77).run Tryz.prog w = .ok 1 w := by kernel_rfl
theorem asn77_77 (w : World) : (ReflectliteType.relation "AssignableTo" ReflectliteType.assignableTo #[.agg #[typeHandle Tryz.prog 77], .iface 132 (.agg #[typeHandle Tryz.prog 77])]).run Tryz.prog w = .ok (.bool true) w := by kernel_rfl
theorem asn77_84 (w : World) : (ReflectliteType.relation "AssignableTo" ReflectliteType.assignableTo #[.agg #[typeHandle Tryz.prog 84], .iface 132 (.agg #[typeHandle Tryz.prog 77])]).run Tryz.prog w = .ok (.bool false) w := by kernel_rfl
theorem asn77_148 (w : World) : (ReflectliteType.relation "AssignableTo" ReflectliteType.assignableTo #[.agg #[typeHandle Tryz.prog 148], .iface 132 (.agg #[typeHandle Tryz.prog 77])]).run Tryz.prog w = .ok (.bool false) w := by kernel_rfl
theorem asn77_121 (w : World) : (ReflectliteType.relation "AssignableTo" ReflectliteType.assignableTo #[.agg #[typeHandle Tryz.prog 121], .iface 132 (.agg #[typeHandle Tryz.prog 77])]).run Tryz.prog w = .ok (.bool false) w := by kernel_rfl
theorem asn77_157 (w : World) : (ReflectliteType.relation "AssignableTo" ReflectliteType.assignableTo #[.agg #[typeHandle Tryz.prog 157], .iface 132 (.agg #[typeHandle Tryz.prog 77])]).run Tryz.prog w = .ok (.bool false) w := by kernel_rfl
theorem asn77_164 (w : World) : (ReflectliteType.relation "AssignableTo" ReflectliteType.assignableTo #[.agg #[typeHandle Tryz.prog 164], .iface 132 (.agg #[typeHandle Tryz.prog 77])]).run Tryz.prog w = .ok (.bool false) w := by kernel_rfl
theorem asn77_160 (w : World) : (ReflectliteType.relation "AssignableTo" ReflectliteType.assignableTo #[.agg #[typeHandle Tryz.prog 160], .iface 132 (.agg #[typeHandle Tryz.prog 77])]).run Tryz.prog w = .ok (.bool false) w := by kernel_rfl
theorem load77 (b : Nat) (x : Value) (W : World) (h : W.cell? ⟨b, 0, none⟩ = some x) : (loadVar 77 ⟨b, 0, none⟩).run Tryz.prog W = .ok (.agg #[x]) W := by
  have hl : (loadCells ⟨b, 0, none⟩ [x].length).run Tryz.prog W = .ok [x].toArray W := run_loadCells_list (P := Tryz.prog) W ⟨b, 0, none⟩ [x] (fun j v hv => by
    cases j with
    | zero => simp at hv; subst hv; exact h
    | succ j => simp at hv)
  simp only [List.length_singleton] at hl
  simp [loadVar, isAgg, underlying, Tryz.underlying77, Result.andThen, size77, hl]
theorem asT77 : AsT 77 79 true 25 where
  valueOfP := fun t w => by kernel_rfl
  type := fun a w => by kernel_rfl
  kindP := fun w => by kernel_rfl
  kindT := ⟨25, by decide, fun w => by kernel_rfl⟩
  isNil := fun a p W ha => by
    rw [rlm]
    simp only [Sem.run_bind, parts79, Result.andThen]
    simp [ReflectliteValue.isNil, loadVar, isAgg, underlying, Tryz.underlying79, ha, Result.andThen]
  elemT := fun w => by kernel_rfl
  impl := fun w => by kernel_rfl
  assign := fun t k h => look_forall (l := errT) (p := fun t _ => ∀ w : World, (ReflectliteType.relation "AssignableTo" ReflectliteType.assignableTo #[.agg #[typeHandle Tryz.prog t], .iface 132 (.agg #[typeHandle Tryz.prog 77])]).run Tryz.prog w = .ok (.bool (Nat.beq t 77)) w) (fun x hx => by
    simp only [errT, List.mem_cons, List.not_mem_nil, or_false] at hx
    rcases hx with rfl | rfl | rfl | rfl | rfl | rfl | rfl
    · exact asn77_77
    · exact asn77_84
    · exact asn77_148
    · exact asn77_121
    · exact asn77_157
    · exact asn77_164
    · exact asn77_160) h
  tag := ⟨.leaf, by kernel_rfl⟩
  valueOf := fun x w hx => by kernel_rfl
  elemV := fun a p W ha => by
    rw [rlm]
    simp only [Sem.run_bind, parts79, Result.andThen]
    simp [ReflectliteValue.elem, loadVar, isAgg, underlying, Tryz.underlying79, ha, Result.andThen, elemOf79, mk77]
  set := fun ta b x old W hx ho hb ht hf => by
    rw [rls]
    simp only [show (25 : Int) + 384 = 409 from rfl, show (25 : Int) + 128 = 153 from rfl, Sem.run_bind, parts77a, parts77, Result.andThen]
    simp [ReflectliteValue.flagAddr, load77 b x W hb, Result.andThen, direct77, storeVar, Value.cells, storeCells, Addr.add]
    rw [run_store Tryz.prog W ta _ _ ho]
    simp [ht, hf]
end Go.Proofs.Cdm
