/-
Part of the proof: what a library's function comes to, in this seat.
-/
import Derived.Test.YtagmelohcilicaaGreatDoorChecked
import Derived.Test.YtagmelohcilicaaGreatDoorCv29
namespace Go.Proofs.Cdm
open Go Go.RowKit
set_option maxRecDepth 100000

def errT : List (Nat × EK) := [(77, .leaf), (84, .leaf), (148, .leaf), (121, .wrap 141 1 0), (157, .wrap 155 2 1), (164, .wrap 159 2 1), (160, .join 157)]
abbrev TOk := TagOk Tryz.prog 312 144 136 139 140
theorem tag77 : TOk 77 .leaf := ⟨run_typeAssert_lacksB Tryz.underlying144 (by kernel_rfl) (by kernel_rfl), run_typeAssert_lacksB Tryz.underlying136 (by kernel_rfl) (by kernel_rfl),
  run_typeAssert_lacksB Tryz.underlying139 (by kernel_rfl) (by kernel_rfl), run_typeAssert_lacksB Tryz.underlying140 (by kernel_rfl) (by kernel_rfl)⟩
theorem tag84 : TOk 84 .leaf := ⟨run_typeAssert_lacksB Tryz.underlying144 (by kernel_rfl) (by kernel_rfl), run_typeAssert_lacksB Tryz.underlying136 (by kernel_rfl) (by kernel_rfl),
  run_typeAssert_lacksB Tryz.underlying139 (by kernel_rfl) (by kernel_rfl), run_typeAssert_lacksB Tryz.underlying140 (by kernel_rfl) (by kernel_rfl)⟩
theorem tag148 : TOk 148 .leaf := ⟨run_typeAssert_lacksB Tryz.underlying144 (by kernel_rfl) (by kernel_rfl), run_typeAssert_lacksB Tryz.underlying136 (by kernel_rfl) (by kernel_rfl),
  run_typeAssert_lacksB Tryz.underlying139 (by kernel_rfl) (by kernel_rfl), run_typeAssert_lacksB Tryz.underlying140 (by kernel_rfl) (by kernel_rfl)⟩
theorem tag121 : TOk 121 (.wrap 141 1 0) := ⟨run_typeAssert_lacksB Tryz.underlying144 (by kernel_rfl) (by kernel_rfl), run_typeAssert_lacksB Tryz.underlying136 (by kernel_rfl) (by kernel_rfl),
  run_typeAssert_hasB Tryz.underlying139 (by kernel_rfl), fun v w => by kernel_rfl, enterF Tryz.func141 (by kernel_rfl) (by kernel_rfl), fun vs x w hn hx => by
    match vs, hn with
    | [a], _ =>
      obtain rfl : a = x := by simpa using hx
      go_enter Tryz.func141, Tryz.ntmps141
      go_wp2
      go_ret
      exact ⟨rfl, (Below.refl _ _).alloc (Nat.le_refl _) _⟩⟩
theorem tag157 : TOk 157 (.wrap 155 2 1) := ⟨run_typeAssert_lacksB Tryz.underlying144 (by kernel_rfl) (by kernel_rfl), run_typeAssert_lacksB Tryz.underlying136 (by kernel_rfl) (by kernel_rfl),
  run_typeAssert_hasB Tryz.underlying139 (by kernel_rfl), fun v w => by kernel_rfl, enterF Tryz.func155 (by kernel_rfl) (by kernel_rfl), fun vs x w hn hx => by
    match vs, hn with
    | [a, b], _ =>
      obtain rfl : b = x := by simpa using hx
      go_enter Tryz.func155, Tryz.ntmps155
      go_wp2
      go_ret
      exact ⟨rfl, (Below.refl _ _).alloc (Nat.le_refl _) _⟩⟩
theorem tag160 : TOk 160 (.join 157) := ⟨run_typeAssert_lacksB Tryz.underlying144 (by kernel_rfl) (by kernel_rfl), run_typeAssert_lacksB Tryz.underlying136 (by kernel_rfl) (by kernel_rfl),
  run_typeAssert_lacksB Tryz.underlying139 (by kernel_rfl) (by kernel_rfl), run_typeAssert_hasB Tryz.underlying140 (by kernel_rfl), fun v w => by kernel_rfl, enterF Tryz.func157 (by kernel_rfl) (by kernel_rfl), fun b o s w hc => by
    go_enter Tryz.func157, Tryz.ntmps157
    go_wp2
    go_ret
    exact ⟨rfl, Below.refl _ _⟩⟩
theorem tag164 : TOk 164 (.wrap 159 2 1) := ⟨run_typeAssert_lacksB Tryz.underlying144 (by kernel_rfl) (by kernel_rfl), run_typeAssert_lacksB Tryz.underlying136 (by kernel_rfl) (by kernel_rfl),
  run_typeAssert_hasB Tryz.underlying139 (by kernel_rfl), fun v w => by kernel_rfl, enterF Tryz.func159 (by kernel_rfl) (by kernel_rfl), fun vs x w hn hx => by
    match vs, hn with
    | [a, b], _ =>
      obtain rfl : b = x := by simpa using hx
      go_enter Tryz.func159, Tryz.ntmps159
      go_wp2
      go_ret
      exact ⟨rfl, (Below.refl _ _).alloc (Nat.le_refl _) _⟩⟩
theorem tags {t : TypeId} {k : EK} (h : look errT t = some k) : TOk t k := look_forall (l := errT) (fun x hx => by
  simp only [errT, List.mem_cons, List.not_mem_nil, or_false] at hx
  rcases hx with rfl | rfl | rfl | rfl | rfl | rfl | rfl
  · exact tag77
  · exact tag84
  · exact tag148
  · exact tag121
  · exact tag157
  · exact tag164
  · exact tag160) h

theorem is_ok (tt : TypeId) (heq : ∀ w, (binOp .eql 70 (.iface tt (.agg #[])) (.iface tt (.agg #[]))).run Tryz.prog w = .ok (.bool true) w) (RO : Nat → Nat → Prop) :
    ∀ (n : Nat) (W : World) (d : DV) (E : Value) (r : Option (Bool × List DV)), (∀ b o, RO b o → b < W.heap.size) → Rep W RO d E → findD errT tt n d = some r → (∀ x, r = some x → x = (true, [])) →
    Calls Tryz.prog 66 #[E, .iface tt (.agg #[]), .bool true] W fun e w' => e = .returned (.bool r.isSome) ∧ Below W.heap.size W w' := by
  intro n
  induction n using Nat.strongRecOn with
  | ind n ih =>
  intro W d E r hRO hrep hfind hr
  go_enter Tryz.func66, Tryz.ntmps66
  go_wp2
  go_loopw [0] (fun E' wl => Below W.heap.size W wl ∧ ∃ n' d', n' ≤ n ∧ Rep wl RO d' E' ∧ findD errT tt n' d' = some r) (fun E' wl => least fun m => ∃ d', Rep wl RO d' E' ∧ findD errT tt m d' = some r)
  case atStart => exact ⟨Below.refl _ _, n, d, Nat.le_refl _, hrep, hfind⟩
  case round =>
    obtain ⟨hbl, n', d', hn', hrep', hfind'⟩ := hrel
    have hl := least_le (p := fun m => ∃ d', Rep wr RO d' u0 ∧ findD errT tt m d' = some r) ⟨d', hrep', hfind'⟩
    have hs := least_spec (p := fun m => ∃ d', Rep wr RO d' u0 ∧ findD errT tt m d' = some r) ⟨d', hrep', hfind'⟩
    generalize hL : (least fun m => ∃ d', Rep wr RO d' u0 ∧ findD errT tt m d' = some r) = L at hl hs
    obtain ⟨d0, hrep0, hfind0⟩ := hs
    have hLn := Nat.le_trans hl hn'
    have hROr : ∀ b o, RO b o → b < wr.heap.size := fun b o h => Nat.lt_of_lt_of_le (hRO b o h) hbl.size
    clear hrep' hfind' hn' hl
    cases L with
    | zero => simp [findD] at hfind0
    | succ L =>
    match d0, hrep0, hfind0 with
    | .ifc t agg cells, hrep0, hfind0 =>
    simp only [findD] at hfind0
    cases ht : Nat.beq t tt with
    | true =>
      rw [ht] at hfind0
      obtain rfl := Nat.eq_of_beq_eq_true ht
      simp only [cond_true, Option.some.injEq] at hfind0
      have hx := hr _ hfind0.symm
      injection hx with hx1 hx2
      subst hx1 hx2
      obtain ⟨vs, rfl, hvs⟩ := hrep0.ifcT
      obtain rfl : vs = [] := List.eq_nil_of_length_eq_zero hvs.1.symm
      go_wp2
      go_ret
      exact ⟨by rw [← hfind0]; rfl, hbl⟩
    | false =>
      rw [ht] at hfind0
      have htt : t ≠ tt := Nat.ne_of_beq_eq_false ht
      simp only [cond_false] at hfind0
      cases hk : look errT t with
      | none => rw [hk] at hfind0; cases hfind0
      | some k =>
      rw [hk] at hfind0
      have hTag := tags hk
      obtain ⟨u, rfl⟩ := hrep0.ifcV
      have hty := run_eql_iface_types (P := Tryz.prog) t tt u (.agg #[]) Tryz.underlying70 htt wr
      have hI := hTag.noIs
      cases k with
      | leaf =>
        obtain ⟨h1, h2⟩ := hTag.kind
        simp only [Option.some.injEq] at hfind0
        go_wp2
        go_ret
        exact ⟨by rw [← hfind0]; rfl, hbl⟩
      | wrap g m j =>
        obtain ⟨h1, h2, hcf, h3⟩ := hTag.kind
        simp only at hfind0
        cases hc : (agg && Nat.beq cells.length m) with
        | false => rw [hc] at hfind0; cases hfind0
        | true =>
        rw [hc] at hfind0
        simp only [cond_true] at hfind0
        rw [Bool.and_eq_true] at hc
        obtain ⟨rfl, hm⟩ := hc
        have hm := Nat.eq_of_beq_eq_true hm
        obtain ⟨vs, hu, hvs⟩ := hrep0.ifcT
        injection hu with _ hu
        subst hu
        have step : ∀ dj, nth cells j = some dj → ∃ x, vs[j]? = some x ∧ Rep wr RO dj x := fun dj hj => by
          rw [nth_eq] at hj
          obtain ⟨hj1, hj2⟩ := List.getElem?_eq_some_iff.1 hj
          obtain ⟨x, h4, h5⟩ := hvs.get j hj1
          exact ⟨x, h4, by rw [← hj2]; exact h5⟩
        match hj : nth cells j, hfind0 with
        | some .nilI, hfind0 =>
          obtain ⟨x, hx1, hx2⟩ := step _ hj
          obtain rfl := hx2.nilV
          simp only [Option.some.injEq] at hfind0
          have hcall := h3 vs .nilIface wr (by rw [← hvs.1]; exact hm) hx1
          go_wp2
          refine hcall.mono ?_
          rintro e w' ⟨rfl, hb2⟩
          go_wp2
          go_ret
          exact ⟨by rw [← hfind0]; rfl, hbl.trans (hb2.mono hbl.size)⟩
        | some (.ifc t' a' c'), hfind0 =>
          obtain ⟨x, hx1, hx2⟩ := step _ hj
          obtain ⟨u', rfl⟩ := hx2.ifcV
          have hcall := h3 vs (.iface t' u') wr (by rw [← hvs.1]; exact hm) hx1
          go_wp2
          refine hcall.mono ?_
          rintro e w' ⟨rfl, hb2⟩
          go_wp2
          have hbl2 := hbl.trans (hb2.mono hbl.size)
          have hrep2 : Rep w' RO (.ifc t' a' c') (.iface t' u') := hx2.grow hROr hb2
          have hle : (least fun m => ∃ d', Rep w' RO d' (.iface t' u') ∧ findD errT tt m d' = some r) ≤ L := least_le (p := fun m => ∃ d', Rep w' RO d' (.iface t' u') ∧ findD errT tt m d' = some r) ⟨_, hrep2, hfind0⟩
          go_roundw
          case rel => exact ⟨hbl2, L, _, by omega, hrep2, hfind0⟩
          case measure =>
            show (least fun m => ∃ d', Rep w' RO d' (.iface t' u') ∧ findD errT tt m d' = some r) < least _
            rw [hL]
            omega
      | join g =>
        obtain ⟨h1, h2, hmt, hcf, h3⟩ := hTag.kind
        simp only at hfind0
        match agg, cells, hrep0, hfind0 with
        | false, [.ptr (.sl m ds :: rst)], hrep0, hfind0 =>
        simp only at hfind0
        cases hc : (Nat.beq m ds.length && ds.all DV.isIfc) with
        | false => rw [hc] at hfind0; cases hfind0
        | true =>
        rw [hc] at hfind0
        simp only [cond_true] at hfind0
        rw [Bool.and_eq_true] at hc
        obtain ⟨hm, hall⟩ := hc
        have hm := Nat.eq_of_beq_eq_true hm
        obtain ⟨d1, u1, e1, e2, hrepP⟩ := hrep0.ifcF
        injection e1 with e1
        injection e2 with _ e2
        subst e1 e2
        obtain ⟨b, o, A, c, rfl, hmL, hcell, hels⟩ := hrepP.joined2 hROr hm
        have hcall := h3 b o _ wr hcell
        go_wp2
        refine hcall.mono ?_
        rintro e w1 ⟨rfl, hb2⟩
        have hbl1 := hbl.trans (hb2.mono hbl.size)
        go_wp2
        go_loopw [45] (fun i wl => Below W.heap.size W wl ∧ Below wr.heap.size wr wl ∧ ∃ k : Nat, i = .int .i64 (k : Int) ∧ k ≤ ds.length ∧ anyO (findD errT tt L) (ds.drop k) = some r) (fun i _ => match i with | .int _ z => ds.length - z.toNat | _ => 0)
        case atStart => exact ⟨hbl1, hb2, 0, rfl, Nat.zero_le _, hfind0⟩
        case round =>
          obtain ⟨hblr, hbr, k, rfl, hkl, hany⟩ := hrel
          by_cases hkd : k < ds.length
          · have hklt : (k : Int) < (m : Int) := by omega
            have hk0 : ¬ (k : Int) < 0 := by omega
            obtain ⟨b', o', x, rfl, hcx, hrx2⟩ := hels _ hbr k hkd
            rw [List.drop_eq_getElem_cons hkd] at hany
            simp only [anyO] at hany
            cases hf : findD errT tt L ds[k] with
            | none => rw [hf] at hany; cases hany
            | some r' =>
            rw [hf] at hany
            have hr' : ∀ x, r' = some x → x = (true, []) := fun y hy => by
              subst hy
              simp only [Option.some.injEq] at hany
              exact hr y hany.symm
            have hcall2 := ih L (by omega) wr ds[k] x r' (fun b o h => Nat.lt_of_lt_of_le (hRO b o h) hblr.size) hrx2 hf hr'
            have hwrap : wrap64 ((k : Int) + 1) = (k : Int) + 1 := by unfold wrap64; omega
            cases r' with
            | none =>
              go_wp2_with (go_at_call 66; refine hcall2.mono ?_; rintro e w2 ⟨rfl, hb3⟩)
              go_roundw
              case rel =>
                refine ⟨hblr.trans (hb3.mono hblr.size), hbr.trans (hb3.mono hbr.size), k + 1, ?_, hkd, hany⟩
                rfl
              case measure =>
                show ds.length - ((k : Int) + 1).toNat < ds.length - (k : Int).toNat
                omega
            | some y =>
              go_wp2_with (go_at_call 66; refine hcall2.mono ?_; rintro e w2 ⟨rfl, hb3⟩)
              go_ret
              simp only [Option.some.injEq] at hany
              exact ⟨by rw [← hany]; rfl, hblr.trans (hb3.mono hblr.size)⟩
          · have hklt : ¬ (k : Int) < (m : Int) := by omega
            obtain rfl : k = ds.length := by omega
            simp only [List.drop_length, anyO, Option.some.injEq] at hany
            go_wp2
            go_ret
            exact ⟨by rw [← hany]; rfl, hblr⟩

/-- errors.Is at a target without fields. -/
theorem eq0_84 (w : World) : (binOp .eql 70 (.iface 84 (.agg #[])) (.iface 84 (.agg #[]))).run Tryz.prog w = .ok (.bool true) w := by kernel_rfl
theorem eq0_148 (w : World) : (binOp .eql 70 (.iface 148 (.agg #[])) (.iface 148 (.agg #[]))).run Tryz.prog w = .ok (.bool true) w := by kernel_rfl
theorem typeOf84 (v : Value) (w : World) : (Extern.ReflectliteType.typeOf #[.iface 84 v]).run Tryz.prog w = .ok (.iface 132 (.agg #[typeHandle Tryz.prog 84])) w := by kernel_rfl
theorem cmp84 (w : World) : ((Extern.ReflectliteType.method fun t => do Extern.Rtype.noPackHeld "Comparable" t; (fun a => Value.bool a.comparable) <$> typeInfo t) #[.agg #[typeHandle Tryz.prog 84]]).run Tryz.prog w = .ok (.bool true) w := by kernel_rfl
theorem typeOf148 (v : Value) (w : World) : (Extern.ReflectliteType.typeOf #[.iface 148 v]).run Tryz.prog w = .ok (.iface 132 (.agg #[typeHandle Tryz.prog 148])) w := by kernel_rfl
theorem cmp148 (w : World) : ((Extern.ReflectliteType.method fun t => do Extern.Rtype.noPackHeld "Comparable" t; (fun a => Value.bool a.comparable) <$> typeInfo t) #[.agg #[typeHandle Tryz.prog 148]]).run Tryz.prog w = .ok (.bool true) w := by kernel_rfl
theorem mcmp (v : Value) (w : World) : (method 312 132 v "Comparable").run Tryz.prog w = .ok (144, v) w := by kernel_rfl

structure IsT (tt : TypeId) : Prop where
  eq0 : ∀ w : World, (binOp .eql 70 (.iface tt (.agg #[])) (.iface tt (.agg #[]))).run Tryz.prog w = .ok (.bool true) w
  typeOf : ∀ (v : Value) (w : World), (Extern.ReflectliteType.typeOf #[.iface tt v]).run Tryz.prog w = .ok (.iface 132 (.agg #[typeHandle Tryz.prog tt])) w
  cmp : ∀ w : World, ((Extern.ReflectliteType.method fun t => do Extern.Rtype.noPackHeld "Comparable" t; (fun a => Value.bool a.comparable) <$> typeInfo t) #[.agg #[typeHandle Tryz.prog tt]]).run Tryz.prog w = .ok (.bool true) w
theorem isT84 : IsT 84 := ⟨eq0_84, typeOf84, cmp84⟩
theorem isT148 : IsT 148 := ⟨eq0_148, typeOf148, cmp148⟩
theorem Is_nil (tt : TypeId) (u : Value) (W : World) : Calls Tryz.prog 44 #[.nilIface, .iface tt u] W fun e w' => e = .returned (.bool false) ∧ w' = W := by
  have hn := run_eql_iface_nil_left (P := Tryz.prog) W tt u Tryz.underlying70
  go_enter Tryz.func44, Tryz.ntmps44
  go_wp2
  go_ret
  exact ⟨rfl, rfl⟩
theorem Is_ok {tt : TypeId} (hT : IsT tt) (RO : Nat → Nat → Prop) (n : Nat) (W : World) (d : DV) (t : TypeId) (u : Value) (r : Option (Bool × List DV)) (hRO : ∀ b o, RO b o → b < W.heap.size) (hrep : Rep W RO d (.iface t u)) (hfind : findD errT tt n d = some r) (hr : ∀ x, r = some x → x = (true, [])) :
    Calls Tryz.prog 44 #[.iface t u, .iface tt (.agg #[])] W fun e w' => e = .returned (.bool r.isSome) ∧ Below W.heap.size W w' := by
  have h8 := @run_callFunc_extern Tryz.prog 65 _ Extern.ReflectliteType.typeOf Tryz.func65 (by kernel_rfl) (by kernel_rfl) (by kernel_rfl) (by kernel_rfl)
  have h32 := @run_callFunc_extern Tryz.prog 144 _ (Extern.ReflectliteType.method fun t => do Extern.Rtype.noPackHeld "Comparable" t; pure (.bool (← typeInfo t).comparable)) Tryz.func144 (by kernel_rfl) (by kernel_rfl) (by kernel_rfl) (by kernel_rfl)
  have tT := hT.typeOf
  have cT := hT.cmp
  have mR := mcmp
  have hcall := is_ok tt hT.eq0 RO n W d _ r hRO hrep hfind hr
  go_enter Tryz.func44, Tryz.ntmps44
  go_wp2_with (go_at_call 66; refine hcall.mono ?_; rintro e w2 ⟨rfl, hb3⟩)
  go_ret
  exact ⟨rfl, hb3⟩
end Go.Proofs.Cdm
