/-
Part of the proof: what a library's function comes to, in this seat.
-/
import Derived.Test.YtagmelohcilicaaGreatDoorA
namespace Go.Proofs.Cdm
open Go Go.RowKit Go.Extern
set_option maxRecDepth 100000

/-- What errors.As leaves: nothing found; or the target set. -/
def AsPost (RO : Nat → Nat → Prop) (W : World) (ta : Addr) (r : Option (Bool × List DV)) (e : Ending) (w' : World) : Prop :=
  match r with
  | none => e = .returned (.bool false) ∧ Below W.heap.size W w'
  | some y => e = .returned (.bool true) ∧ ∃ w1 d x, y.2 = [d] ∧ Rep w1 RO d x ∧ Below W.heap.size W w1 ∧ w' = w1.setCell ta x
set_option maxHeartbeats 4000000 in
theorem as_ok {tt pt : TypeId} {ag : Bool} {fl : Int} (hT : AsT tt pt ag fl) (RO : Nat → Nat → Prop) (ta : Addr) :
    ∀ (n : Nat) (W : World) (d : DV) (E : Value) (r : Option (Bool × List DV)) (vb : Nat) (old : Value), (∀ b o, RO b o → b < W.heap.size) → Rep W RO d E → findD errT tt n d = some r → (∀ y, r = some y → y.1 = ag ∧ ∃ d, y.2 = [d]) →
    W.cell? ⟨vb, 0, none⟩ = some (.pointer (some ta)) → W.cell? ta = some old → W.frozen? ta = false →
    Calls Tryz.prog 63 #[E, .iface pt (.pointer (some ta)), .agg #[typeHandle Tryz.prog pt, .pointer (some ⟨vb, 0, none⟩), .int .u64 150], .iface 132 (.agg #[typeHandle Tryz.prog tt])] W (AsPost RO W ta r) := by
  have h60 := @run_callFunc_extern Tryz.prog 60 _ (fun args => ReflectliteValue.unpack (args.getD 0 (.tuple #[]))) Tryz.func60 (by kernel_rfl) (by kernel_rfl) (by kernel_rfl) (by kernel_rfl)
  have h65 := @run_callFunc_extern Tryz.prog 65 _ ReflectliteType.typeOf Tryz.func65 (by kernel_rfl) (by kernel_rfl) (by kernel_rfl) (by kernel_rfl)
  have h143 := @run_callFunc_extern Tryz.prog 143 _ (ReflectliteType.relation "AssignableTo" ReflectliteType.assignableTo) Tryz.func143 (by kernel_rfl) (by kernel_rfl) (by kernel_rfl) (by kernel_rfl)
  have h76 := @run_callFunc_extern Tryz.prog 76 _ (ReflectliteValue.method (ReflectliteValue.valueError "reflectlite.Value.Elem" 0) ReflectliteValue.elem) Tryz.func76 (by kernel_rfl) (by kernel_rfl) (by kernel_rfl) (by kernel_rfl)
  have h77 := @run_callFunc_extern Tryz.prog 77 _ ReflectliteValue.set Tryz.func77 (by kernel_rfl) (by kernel_rfl) (by kernel_rfl) (by kernel_rfl)
  have mA : ∀ (h : Value) (w : World), (method 312 132 (.agg #[h]) "AssignableTo").run Tryz.prog w = .ok (143, .agg #[h]) w := fun h w => by kernel_rfl
  intro n
  induction n using Nat.strongRecOn with
  | ind n ih =>
  intro W d E r vb old hRO hrep hfind hr hvb hta hfr
  have hvlt := cell_lt hvb
  have htlt := cell_lt hta
  go_enter Tryz.func63, Tryz.ntmps63
  go_wp2
  go_loopw [0] (fun E' wl => Below (W.heap.size + 1) (W.alloc (.cells #[typeHandle Tryz.prog pt, .pointer (some ⟨vb, 0, none⟩), .int .u64 150] 108)) wl ∧ ∃ n' d', n' ≤ n ∧ Rep wl RO d' E' ∧ findD errT tt n' d' = some r) (fun E' wl => least fun m => ∃ d', Rep wl RO d' E' ∧ findD errT tt m d' = some r)
  case atStart => exact ⟨Below.refl _ _, n, d, Nat.le_refl _, hrep.grow hRO ((Below.refl _ _).alloc (Nat.le_refl _) _), hfind⟩
  case round =>
    obtain ⟨hbx, n', d', hn', hrep', hfind'⟩ := hrel
    have hl := least_le (p := fun m => ∃ d', Rep wr RO d' u0 ∧ findD errT tt m d' = some r) ⟨d', hrep', hfind'⟩
    have hs := least_spec (p := fun m => ∃ d', Rep wr RO d' u0 ∧ findD errT tt m d' = some r) ⟨d', hrep', hfind'⟩
    generalize hL : (least fun m => ∃ d', Rep wr RO d' u0 ∧ findD errT tt m d' = some r) = L at hl hs
    obtain ⟨d0, hrep0, hfind0⟩ := hs
    have hLn := Nat.le_trans hl hn'
    have hsz : W.heap.size + 1 ≤ wr.heap.size := by have := hbx.size; simpa using this
    have hbl : Below W.heap.size W wr := ((Below.refl _ _).alloc (Nat.le_refl _) _).trans (hbx.mono (by omega))
    have hROr : ∀ b o, RO b o → b < wr.heap.size := fun b o h => Nat.lt_of_lt_of_le (hRO b o h) hbl.size
    have hbox : wr.heap[W.heap.size]? = some (.cells #[typeHandle Tryz.prog pt, .pointer (some ⟨vb, 0, none⟩), .int .u64 150] 108 (0, 0)) := by
      rw [hbx.block _ (by omega)]
      exact heap_alloc_new W _
    have hx0 : wr.cell? ⟨W.heap.size, 0, none⟩ = some (typeHandle Tryz.prog pt) := by rw [cell_of_row wr _ _ _ _ _ hbox]; rfl
    have hx1 : wr.cell? ⟨W.heap.size, 1, none⟩ = some (.pointer (some ⟨vb, 0, none⟩)) := by rw [cell_of_row wr _ _ _ _ _ hbox]; rfl
    have hx2 : wr.cell? ⟨W.heap.size, 2, none⟩ = some (.int .u64 150) := by rw [cell_of_row wr _ _ _ _ _ hbox]; rfl
    have hvb2 : wr.cell? ⟨vb, 0, none⟩ = some (.pointer (some ta)) := by rw [hbl.cell hvlt]; exact hvb
    have hta2 : wr.cell? ta = some old := by rw [hbl.cell htlt]; exact hta
    have hfr2 : wr.frozen? ta = false := by rw [hbl.frozen htlt]; exact hfr
    clear hrep' hfind' hn' hl
    cases L with
    | zero => simp [findD] at hfind0
    | succ L =>
    match d0, hrep0, hfind0 with
    | .ifc t agg cells, hrep0, hfind0 =>
    simp only [findD] at hfind0
    cases ht : Nat.beq t tt with
    | true =>
      rw [ht] at hfind0
      obtain rfl := Nat.eq_of_beq_eq_true ht
      simp only [cond_true, Option.some.injEq] at hfind0
      obtain ⟨hy1, dx, hy2⟩ := hr _ hfind0.symm
      simp only at hy1 hy2
      subst hy1 hy2
      have hx : ∃ x, u0 = .iface t (mkV agg x) ∧ Rep wr RO dx x := by
        cases agg with
        | true =>
          obtain ⟨vs, hv, hvs⟩ := hrep0.ifcT
          match vs, hvs with
          | [x], hvs => exact ⟨x, hv, by have := hvs.2 0 (by simp) (by simp); simpa using this⟩
          | [], hvs => exact absurd hvs.1 (by simp)
          | _ :: _ :: _, hvs => exact absurd hvs.1 (by simp)
        | false =>
          obtain ⟨d1, u1, e1, e2, h⟩ := hrep0.ifcF
          injection e1 with e1
          subst e1
          exact ⟨u1, e2, h⟩
      obtain ⟨x, rfl, hrx⟩ := hx
      obtain ⟨kT, hkT⟩ := hT.tag
      have tO := typeOfE t kT hkT (mkV agg x)
      have aT := hT.assign t kT hkT
      rw [ht] at aT
      have vO := fun w => hT.valueOf x w hrx.one.1
      have eV := hT.elemV ⟨vb, 0, none⟩ ta wr hvb2
      have hlt2 : ta.block < wr.heap.size := cell_lt hta2
      have sV := hT.set ta wr.heap.size x old (wr.alloc (.cells #[x] t)) hrx.one.1 hrx.one.2 (by rw [World.cell?_alloc_at _ _ _ _ (by simp)]; rfl) (by rw [World.cell?_alloc_lt _ _ ta hlt2]; exact hta2) (by rw [World.frozen?_alloc_old _ _ ta (Nat.ne_of_lt hlt2)]; exact hfr2)
      go_wp2
      go_ret
      have er : r = some (agg, [dx]) := hfind0.symm
      subst er
      exact ⟨rfl, wr.alloc (.cells #[x] t), dx, x, rfl, hrx.grow hROr ((Below.refl _ _).alloc (Nat.le_refl _) _), hbl.alloc hbl.size _, rfl⟩
    | false =>
      rw [ht] at hfind0
      simp only [cond_false] at hfind0
      cases hk : look errT t with
      | none => rw [hk] at hfind0; cases hfind0
      | some k =>
      rw [hk] at hfind0
      have hTag := tags hk
      obtain ⟨u, rfl⟩ := hrep0.ifcV
      have hA := hTag.noAs
      have tO := typeOfE t k hk u
      have aT := hT.assign t k hk
      rw [ht] at aT
      cases k with
      | leaf =>
        obtain ⟨h1, h2⟩ := hTag.kind
        simp only [Option.some.injEq] at hfind0
        subst hfind0
        go_wp2
        go_ret
        exact ⟨rfl, hbl⟩
      | wrap g m j =>
        obtain ⟨h1, h2, hcf, h3⟩ := hTag.kind
        simp only at hfind0
        cases hc : (agg && Nat.beq cells.length m) with
        | false => rw [hc] at hfind0; cases hfind0
        | true =>
        rw [hc] at hfind0
        simp only [cond_true] at hfind0
        rw [Bool.and_eq_true] at hc
        obtain ⟨rfl, hm⟩ := hc
        have hm := Nat.eq_of_beq_eq_true hm
        obtain ⟨vs, hu, hvs⟩ := hrep0.ifcT
        injection hu with _ hu
        subst hu
        have step : ∀ dj, nth cells j = some dj → ∃ x, vs[j]? = some x ∧ Rep wr RO dj x := fun dj hj => by
          rw [nth_eq] at hj
          obtain ⟨hj1, hj2⟩ := List.getElem?_eq_some_iff.1 hj
          obtain ⟨x, h4, h5⟩ := hvs.get j hj1
          exact ⟨x, h4, by rw [← hj2]; exact h5⟩
        match hj : nth cells j, hfind0 with
        | some .nilI, hfind0 =>
          obtain ⟨x, hx1', hx2'⟩ := step _ hj
          obtain rfl := hx2'.nilV
          simp only [Option.some.injEq] at hfind0
          subst hfind0
          have hcall := h3 vs .nilIface wr (by rw [← hvs.1]; exact hm) hx1'
          go_wp2
          refine hcall.mono ?_
          rintro e w' ⟨rfl, hb2⟩
          go_wp2
          go_ret
          exact ⟨rfl, hbl.trans (hb2.mono hbl.size)⟩
        | some (.ifc t' a' c'), hfind0 =>
          obtain ⟨x, hx1', hx2'⟩ := step _ hj
          obtain ⟨u', rfl⟩ := hx2'.ifcV
          have hcall := h3 vs (.iface t' u') wr (by rw [← hvs.1]; exact hm) hx1'
          go_wp2
          refine hcall.mono ?_
          rintro e w' ⟨rfl, hb2⟩
          go_wp2
          have hbl2 := hbx.trans (hb2.mono hsz)
          have hrep2 : Rep w' RO (.ifc t' a' c') (.iface t' u') := hx2'.grow hROr hb2
          have hle : (least fun m => ∃ d', Rep w' RO d' (.iface t' u') ∧ findD errT tt m d' = some r) ≤ L := least_le (p := fun m => ∃ d', Rep w' RO d' (.iface t' u') ∧ findD errT tt m d' = some r) ⟨_, hrep2, hfind0⟩
          go_roundw
          case rel => exact ⟨hbl2, L, _, by omega, hrep2, hfind0⟩
          case measure =>
            show (least fun m => ∃ d', Rep w' RO d' (.iface t' u') ∧ findD errT tt m d' = some r) < least _
            rw [hL]
            omega
      | join g =>
        obtain ⟨h1, h2, hmt, hcf, h3⟩ := hTag.kind
        simp only at hfind0
        match agg, cells, hrep0, hfind0 with
        | false, [.ptr (.sl m ds :: rst)], hrep0, hfind0 =>
        simp only at hfind0
        cases hc : (Nat.beq m ds.length && ds.all DV.isIfc) with
        | false => rw [hc] at hfind0; cases hfind0
        | true =>
        rw [hc] at hfind0
        simp only [cond_true] at hfind0
        rw [Bool.and_eq_true] at hc
        obtain ⟨hm, hall⟩ := hc
        have hm := Nat.eq_of_beq_eq_true hm
        obtain ⟨d1, u1, e1, e2, hrepP⟩ := hrep0.ifcF
        injection e1 with e1
        injection e2 with _ e2
        subst e1 e2
        obtain ⟨b, o, A, c, rfl, hmL, hcell, hels⟩ := hrepP.joined2 hROr hm
        have hcall := h3 b o _ wr hcell
        go_wp2
        refine hcall.mono ?_
        rintro e w1 ⟨rfl, hb2⟩
        have hbl1 := hbx.trans (hb2.mono hsz)
        go_wp2
        go_loopw [50] (fun i wl => Below (W.heap.size + 1) (W.alloc (.cells #[typeHandle Tryz.prog pt, .pointer (some ⟨vb, 0, none⟩), .int .u64 150] 108)) wl ∧ Below wr.heap.size wr wl ∧ ∃ k : Nat, i = .int .i64 (k : Int) ∧ k ≤ ds.length ∧ anyO (findD errT tt L) (ds.drop k) = some r) (fun i _ => match i with | .int _ z => ds.length - z.toNat | _ => 0)
        case atStart => exact ⟨hbl1, hb2, 0, rfl, Nat.zero_le _, hfind0⟩
        case round =>
          obtain ⟨hbxr, hbr, k, rfl, hkl, hany⟩ := hrel
          have hszr : W.heap.size + 1 ≤ wr.heap.size := by have := hbr.size; omega
          have hblr := hbl.trans (hbr.mono hbl.size)
          by_cases hkd : k < ds.length
          · have hklt : (k : Int) < (m : Int) := by omega
            have hk0 : ¬ (k : Int) < 0 := by omega
            obtain ⟨b', o', x, rfl, hcx, hrx2⟩ := hels _ hbr k hkd
            obtain ⟨tx, ux, rfl⟩ : ∃ tx ux, x = .iface tx ux := by
              have hi := List.all_eq_true.1 hall ds[k] (List.getElem_mem hkd)
              cases hdk : ds[k] <;> rw [hdk] at hi hrx2 <;> try (simp [DV.isIfc] at hi; done)
              exact ⟨_, hrx2.ifcV⟩
            rw [List.drop_eq_getElem_cons hkd] at hany
            simp only [anyO] at hany
            cases hf : findD errT tt L ds[k] with
            | none => rw [hf] at hany; cases hany
            | some r' =>
            rw [hf] at hany
            have hr' : ∀ y, r' = some y → y.1 = ag ∧ ∃ d, y.2 = [d] := fun y hy => by
              subst hy
              simp only [Option.some.injEq] at hany
              exact hr y hany.symm
            have hvb3 : wr.cell? ⟨vb, 0, none⟩ = some (.pointer (some ta)) := by rw [hblr.cell hvlt]; exact hvb
            have hta3 : wr.cell? ta = some old := by rw [hblr.cell htlt]; exact hta
            have hfr3 : wr.frozen? ta = false := by rw [hblr.frozen htlt]; exact hfr
            have hbox3 : wr.heap[W.heap.size]? = some (.cells #[typeHandle Tryz.prog pt, .pointer (some ⟨vb, 0, none⟩), .int .u64 150] 108 (0, 0)) := by
              rw [hbxr.block _ (by omega)]
              exact heap_alloc_new W _
            have hy0 : wr.cell? ⟨W.heap.size, 0, none⟩ = some (typeHandle Tryz.prog pt) := by rw [cell_of_row wr _ _ _ _ _ hbox3]; rfl
            have hy1 : wr.cell? ⟨W.heap.size, 1, none⟩ = some (.pointer (some ⟨vb, 0, none⟩)) := by rw [cell_of_row wr _ _ _ _ _ hbox3]; rfl
            have hy2 : wr.cell? ⟨W.heap.size, 2, none⟩ = some (.int .u64 150) := by rw [cell_of_row wr _ _ _ _ _ hbox3]; rfl
            have hcall2 := ih L (by omega) wr ds[k] _ r' vb old (fun b o h => Nat.lt_of_lt_of_le (hRO b o h) hblr.size) hrx2 hf hr' hvb3 hta3 hfr3
            have hwrap : IntKind.i64.wrap ((k : Int) + 1) = (k : Int) + 1 := by rw [IntKind.wrap_i64]; omega
            cases r' with
            | none =>
              have hcall3 : Calls Tryz.prog 63 #[.iface tx ux, .iface pt (.pointer (some ta)), .agg #[typeHandle Tryz.prog pt, .pointer (some ⟨vb, 0, none⟩), .int .u64 150], .iface 132 (.agg #[typeHandle Tryz.prog tt])] wr fun e w' => e = .returned (.bool false) ∧ Below wr.heap.size wr w' := hcall2
              clear hcall2 ih
              clear hbox hx0 hx1 hx2 hvb2 hta2 hfr2 hL hTag tO aT hA h1 h2 hmt hcf h3 hcall hcell hels hrepP hrep0 hf hrx2 hr' hr hvb hta hfr hvb3 hta3 hfr3 hbox3 hT h60 h65 h143 h76 h77 mA
              go_wp2_with (go_at_call 63; refine hcall3.mono ?_; rintro e w2 ⟨rfl, hb3⟩)
              go_roundw
              case rel =>
                refine ⟨hbxr.trans (hb3.mono hszr), hbr.trans (hb3.mono hbr.size), k + 1, ?_, hkd, hany⟩
                rfl
              case measure =>
                show ds.length - ((k : Int) + 1).toNat < ds.length - (k : Int).toNat
                omega
            | some y =>
              have hcall3 : Calls Tryz.prog 63 #[.iface tx ux, .iface pt (.pointer (some ta)), .agg #[typeHandle Tryz.prog pt, .pointer (some ⟨vb, 0, none⟩), .int .u64 150], .iface 132 (.agg #[typeHandle Tryz.prog tt])] wr fun e w' => e = .returned (.bool true) ∧ ∃ w1 d x, y.2 = [d] ∧ Rep w1 RO d x ∧ Below wr.heap.size wr w1 ∧ w' = w1.setCell ta x := hcall2
              clear hcall2 ih
              clear hbox hx0 hx1 hx2 hvb2 hta2 hfr2 hL hTag tO aT hA h1 h2 hmt hcf h3 hcall hcell hels hrepP hrep0 hf hrx2 hr' hr hvb hta hfr hvb3 hta3 hfr3 hbox3 hT h60 h65 h143 h76 h77 mA
              go_wp2_with (go_at_call 63; refine hcall3.mono ?_; rintro e w2 ⟨rfl, w3, d3, x3, hd3, hrep3, hb3, rfl⟩)
              go_ret
              simp only [Option.some.injEq] at hany
              subst hany
              exact ⟨rfl, w3, d3, x3, hd3, hrep3, hblr.trans (hb3.mono hblr.size), rfl⟩
          · have hklt : ¬ (k : Int) < (m : Int) := by omega
            obtain rfl : k = ds.length := by omega
            simp only [List.drop_length, anyO, Option.some.injEq] at hany
            subst hany
            go_wp2
            go_ret
            exact ⟨rfl, hblr⟩
end Go.Proofs.Cdm
