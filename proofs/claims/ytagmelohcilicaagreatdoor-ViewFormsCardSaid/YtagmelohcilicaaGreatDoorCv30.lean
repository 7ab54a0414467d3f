/-
errors.Is and errors.As, as the machine calls them.
-/
import Derived.Test.YtagmelohcilicaaGreatDoorCv29
namespace Go.Proofs.Cdm
open Go Go.RowKit

def extIs (tb : List (Nat × EK)) (lv : List Nat) (args : List AV) (bs : List Blk) : Option Ret :=
  match args, bs with
  | [.ro .ifc d, .ro .ifc (.ifc tt true [])], [] => bif lv.any (Nat.beq tt) then match d with
      | .nilI => some ([.ro .bool false], [])
      | .ifc t a c => match findD tb tt 60 (.ifc t a c) with
        | some none => some ([.ro .bool false], [])
        | some (some (true, [])) => some ([.ro .bool true], [])
        | _ => none
      | _ => none
    else none
  | _, _ => none
theorem RA.ifcD {C : Ctx} {d : DV} {val : Value} (h : RA C (.ro .ifc d) val) : Rep C.w C.RO d val := RA.one h rfl rfl
theorem extIs_ok {P : Program} {f : FuncId} {fn : Func} (hf : P.funcs[f]? = some fn) (hb : fn.body.isNone = false) (hname : (fn.name == "runtime.NumGoroutine") = false) {tb : List (Nat × EK)} {lv : List Nat}
    (hnil : ∀ tt ∈ lv, ∀ (u : Value) (W : World), Calls P f #[.nilIface, .iface tt u] W fun e w' => e = .returned (.bool false) ∧ w' = W)
    (his : ∀ tt ∈ lv, ∀ (RO : Nat → Nat → Prop) (n : Nat) (W : World) (d : DV) (t : TypeId) (u : Value) (r : Option (Bool × List DV)), (∀ b o, RO b o → b < W.heap.size) → Rep W RO d (.iface t u) → findD tb tt n d = some r → (∀ x, r = some x → x = (true, [])) →
      Calls P f #[.iface t u, .iface tt (.agg #[])] W fun e w' => e = .returned (.bool r.isSome) ∧ Below W.heap.size W w') :
    ∀ args bs r, extIs tb lv args bs = some r → CallOk P f args bs r := by
  intro args bs r h
  unfold extIs at h
  split at h
  · rename_i d tt
    cases hc : lv.any (Nat.beq tt) with
    | false => rw [hc] at h; cases h
    | true =>
      rw [hc] at h
      simp only [cond_true] at h
      obtain ⟨t2, ht2, ht3⟩ := List.any_eq_true.1 hc
      obtain rfl := Nat.eq_of_beq_eq_true ht3
      have key : ∀ (b : Bool), r = ([.ro .bool b], []) → (∀ (C0 : Ctx) (v : Value), Rep C0.w C0.RO d v → WOk C0 → Calls P f #[v, .iface tt (.agg #[])] C0.w fun e w' => e = .returned (.bool b) ∧ Below C0.w.heap.size C0.w w') → CallOk P f [.ro .ifc d, .ro .ifc (.ifc tt true [])] [] r := by
        intro b hr hcall
        subst hr
        refine callOk_of hf hb hname fun C0 vals _ _ hra hW => ?_
        match vals, hra with
        | [v, v2], hra =>
        obtain ⟨vs, rfl, hvs⟩ := (RA.ifcD hra.2.1).ifcT
        obtain rfl : vs = [] := List.eq_nil_of_length_eq_zero hvs.1.symm
        refine Calls.mono' (hcall C0 v (RA.ifcD hra.1) hW) fun e w' he => ?_
        exact ⟨C0.RO, [.bool b], he.1, he.2, fun _ _ h => h, fun _ _ h => .inl h, .ofBool b, trivial⟩
      split at h
      · simp only [Option.some.injEq] at h
        refine key false h.symm fun C0 v hv hW => ?_
        obtain rfl := hv.nilV
        exact Calls.mono' (hnil tt ht2 _ C0.w) fun e w' he => ⟨he.1, by rw [he.2]; exact Below.refl _ _⟩
      · rename_i t a c
        split at h
        · rename_i hfd
          simp only [Option.some.injEq] at h
          refine key false h.symm fun C0 v hv hW => ?_
          obtain ⟨u, rfl⟩ := hv.ifcV
          exact his tt ht2 C0.RO 60 C0.w _ t u none hW.ro hv hfd (fun x hx => by cases hx)
        · rename_i hfd
          simp only [Option.some.injEq] at h
          refine key true h.symm fun C0 v hv hW => ?_
          obtain ⟨u, rfl⟩ := hv.ifcV
          exact his tt ht2 C0.RO 60 C0.w _ t u (some (true, [])) hW.ro hv hfd (fun x hx => by cases hx; rfl)
        · cases h
      · cases h
  · cases h

/-! ### errors.As -/
def dec1 : (t : Ty) → DV → Option t.den
  | .cons (.int k) .unit, .int j n => if j = k then some (n, ()) else none
  | .cons .str .unit, .str s => some (s, ())
  | _, _ => none
theorem dec1_ok {t : Ty} {d : DV} {x : t.den} (h : dec1 t d = some x) : wft t x ∧ enc t x = [d] := by
  unfold dec1 at h
  split at h
  · rename_i k j n
    split at h
    · rename_i hj
      subst hj
      simp only [Option.some.injEq] at h
      subst h
      exact ⟨⟨trivial, trivial⟩, rfl⟩
    · cases h
  · simp only [Option.some.injEq] at h
    subst h
    exact ⟨⟨trivial, trivial⟩, rfl⟩
  · cases h
/-- 'tt': the target's type; 'pt': pointers to it; 'ty': as the machine has it. -/
def extAs (tb : List (Nat × EK)) (l : List (Nat × Nat × Bool × Ty)) (args : List AV) (bs : List Blk) : Option Ret :=
  match args, bs with
  | [.ro .ifc d, .ipt pt 1000], [.box t v] => match look l pt with
    | some (tt, ag, ty) => bif decide (t = ty) && Nat.beq ty.size 1 then match d with
      | .nilI => some ([.ro .bool false], [.box t v])
      | .ifc t' a c => match findD tb tt 60 (.ifc t' a c) with
        | some none => some ([.ro .bool false], [.box t v])
        | some (some (a', [c'])) => bif a' == ag then (dec1 ty c').map fun y => ([.ro .bool true], [.box ty (.ro ty y)]) else none
        | _ => none
      | _ => none
      else none
    | none => none
  | _, _ => none
/-- One variable was handed over, and it has been set, or not. -/
theorem ret_box {C0 : Ctx} {w' : World} {ty : Ty} {x : ty.den} {t0 : Ty} {v0 : AV} (hW : WOk C0) (hl : look C0.si 1000 = some (.box t0 v0)) (os : w'.os = C0.w.os) (tape : w'.tape = C0.w.tape) (output : w'.output = C0.w.output) (size : C0.w.heap.size ≤ w'.heap.size)
    (old : ∀ b, b < C0.w.heap.size → b ≠ C0.φ 1000 → w'.heap[b]? = C0.w.heap[b]?) {c : Array Value} {e : TypeId} (hc : w'.heap[C0.φ 1000]? = some (.cells c e (0, 0))) (hr : RepT w' C0.RO ty x c.toList) :
    RetOk C0 1 ⟨w', C0.RO, enter.number 1000 [.box ty (.ro ty x)], C0.φ, C0.ν⟩ := by
  have lk : ∀ d b, look (enter.number 1000 [Blk.box ty (.ro ty x)]) d = some b → d = 1000 ∧ b = .box ty (.ro ty x) := by
    intro d b hd
    rw [look_number] at hd
    split at hd
    · have := (List.getElem?_eq_some_iff.1 hd).1
      have h0 : d - 1000 = 0 := by simpa using this
      rw [h0] at hd
      simp at hd
      exact ⟨by omega, hd.symm⟩
    · cases hd
  obtain ⟨_, _, _, _, _, hro⟩ := hW.site 1000 _ hl
  refine ⟨⟨fun d b hd => ?_, fun d d' b b' k hd hd' hk hk' => ?_, fun b o h => Nat.lt_of_lt_of_le (hW.ro b o h) size⟩, os, tape, output, size, fun b hb hne => old b hb (fun h => hne 0 (by omega) h.symm), fun b o h => h, fun b o h => .inl h, fun _ _ => rfl, fun d b k hd hk => .inl ⟨0, by omega, (lk d b hd).1⟩⟩
  · obtain ⟨rfl, rfl⟩ := lk d b hd
    exact ⟨by simp [fits], c, e, hc, hr, hro⟩
  · rw [(lk d b hd).1, (lk d' b' hd').1]
theorem extAs_ok {P : Program} {f : FuncId} {fn : Func} (hf : P.funcs[f]? = some fn) (hb : fn.body.isNone = false) (hname : (fn.name == "runtime.NumGoroutine") = false) {tb : List (Nat × EK)} {l : List (Nat × Nat × Bool × Ty)} {gv : Value} {g0 : Nat} (hglob : glob P g0 gv)
    (hnil : ∀ (u : Value) (W : World), Calls P f #[.nilIface, u] W fun e w' => e = .returned (.bool false) ∧ w' = W)
    (has : ∀ pt tt ag ty, look l pt = some (tt, ag, ty) → ∀ (RO : Nat → Nat → Prop) (ta : Addr) (n : Nat) (W : World) (d : DV) (t : TypeId) (u : Value) (r : Option (Bool × List DV)) (old : Value), (∀ b o, RO b o → b < W.heap.size) → Rep W RO d (.iface t u) → findD tb tt n d = some r → (∀ y, r = some y → y.1 = ag ∧ ∃ d, y.2 = [d]) →
      W.cell? ⟨g0, 0, none⟩ = some gv → W.cell? ta = some old → W.frozen? ta = false →
      Calls P f #[.iface t u, .iface pt (.pointer (some ta))] W fun e w' => match r with
        | none => e = .returned (.bool false) ∧ Below W.heap.size W w'
        | some y => e = .returned (.bool true) ∧ ∃ w1 d x, y.2 = [d] ∧ Rep w1 RO d x ∧ Below W.heap.size W w1 ∧ w' = w1.setCell ta x) :
    ∀ args bs r, extAs tb l args bs = some r → CallOk P f args bs r := by
  intro args bs r h
  unfold extAs at h
  split at h
  · rename_i d pt t v
    cases hl : look l pt with
    | none => rw [hl] at h; cases h
    | some q =>
    obtain ⟨tt, ag, ty⟩ := q
    rw [hl] at h
    simp only at h
    cases hc : (decide (t = ty) && Nat.beq ty.size 1) with
    | false => rw [hc] at h; cases h
    | true =>
      rw [hc] at h
      simp only [cond_true] at h
      rw [Bool.and_eq_true, decide_eq_true_eq] at hc
      obtain ⟨rfl, hsz⟩ := hc
      have hsz := Nat.eq_of_beq_eq_true hsz
      intro C0 vals hsi hbx hG hr hW
      obtain ⟨t1, x1, hbox⟩ := hbx _ (List.mem_singleton.2 rfl)
      injection hbox with e1 e2
      subst e1 e2
      match vals, hr with
      | [v1, v2], hr =>
      have hd1 := RA.ifcD hr.1
      have hlk : look C0.si 1000 = some (.box t (.ro t x1)) := by rw [hsi]; rfl
      obtain ⟨_, c, e, hcell, hrep, hnro⟩ := hW.site 1000 _ hlk
      have hrep : RepT C0.w C0.RO t x1 c.toList := hrep
      have hclen := hrep.length
      rw [hsz, Array.length_toList] at hclen
      obtain ⟨old, hold⟩ : ∃ old, c = #[old] := ⟨c[0], by
        apply Array.ext
        · simp [hclen]
        · intro i h1 h2
          obtain rfl : i = 0 := by omega
          rfl⟩
      subst hold
      obtain ⟨cs, ⟨a, rfl, _, ha⟩, hv2⟩ := hr.2.1.rc (by simp)
      have hv2 : v2 = .iface pt (.pointer (some a)) := hv2
      obtain rfl := ha _ _ hlk
      subst hv2
      have hφ : C0.φ 1000 < C0.w.heap.size := (Array.getElem?_eq_some_iff.1 hcell).1
      have hgl := (hG g0 gv hglob).2
      have hct : C0.w.cell? ⟨C0.φ 1000, 0, none⟩ = some old := by rw [cell_of_row C0.w _ _ _ _ _ hcell]; rfl
      have hfz : C0.w.frozen? ⟨C0.φ 1000, 0, none⟩ = false := by simp [World.frozen?, hcell]
      have keepB : ∀ {w' : World}, Below C0.w.heap.size C0.w w' → Keep C0.w w' C0.RO C0.RO := fun hb => ⟨fun _ _ h => h, fun b o v hro hcv => by rw [cell_of_heap (hb.block b (hW.ro b o hro))]; exact hcv⟩
      have miss : ∀ {w' : World} {ev : Ending}, ev = .returned (.bool false) → Below C0.w.heap.size C0.w w' → ∃ v, ev = .returned v ∧ ∃ C' us, C'.w = w' ∧ RetOk C0 1 C' ∧ C'.si = enter.number 1000 [Blk.box t (.ro t x1)] ∧ RAs C' [.ro .bool false] us ∧ v = tup us := by
        intro w' ev he hbl
        refine ⟨_, he, _, [.bool false], rfl, ret_box hW hlk hbl.os hbl.tape hbl.output hbl.size (fun b hb _ => hbl.block b hb) (by rw [hbl.block _ hφ]; exact hcell) (hrep.keep (keepB hbl)), rfl, ⟨.ofBool false, trivial⟩, rfl⟩
      have close : ∀ (rr : Ret), (Calls P f #[v1, .iface pt (.pointer (some ⟨C0.φ 1000, 0, none⟩))] C0.w fun ev w' => ∃ v, ev = .returned v ∧ ∃ C' us, C'.w = w' ∧ RetOk C0 1 C' ∧ C'.si = enter.number 1000 rr.2 ∧ RAs C' rr.1 us ∧ v = tup us) →
          Enters P f [v1, .iface pt (.pointer (some ⟨C0.φ 1000, 0, none⟩))].toArray C0.w fun v w' => ∃ C' us, C'.w = w' ∧ RetOk C0 [Blk.box t (.ro t x1)].length C' ∧ C'.si = enter.number 1000 rr.2 ∧ RAs C' rr.1 us ∧ v = tup us := by
        intro rr hcl
        refine ⟨.enter f _, C0.w, enterF hf hname hb _ _, Calls.mono' hcl fun ev w' he => ?_⟩
        obtain ⟨v, rfl, h⟩ := he
        exact h
      split at h
      · simp only [Option.some.injEq] at h
        subst h
        obtain rfl := hd1.nilV
        exact close _ (Calls.mono' (hnil _ C0.w) fun ev w' he => miss he.1 (by rw [he.2]; exact Below.refl _ _))
      · rename_i t' a' c' _
        obtain ⟨u, rfl⟩ := hd1.ifcV
        split at h
        · rename_i hfd
          simp only [Option.some.injEq] at h
          subst h
          exact close _ (Calls.mono' (has pt tt ag t hl C0.RO ⟨C0.φ 1000, 0, none⟩ 60 C0.w _ t' u none old hW.ro hd1 hfd (fun y hy => by cases hy) hgl hct hfz) fun ev w' he => miss he.1 he.2)
        · rename_i ag' dx hfd
          cases hag : (ag' == ag) with
          | false => rw [hag] at h; cases h
          | true =>
          rw [hag] at h
          simp only [cond_true, Option.map_eq_some_iff] at h
          obtain ⟨y, hy, rfl⟩ := h
          have hag : ag' = ag := by simpa using hag
          subst hag
          obtain ⟨hwf, henc⟩ := dec1_ok hy
          refine close _ (Calls.mono' (has pt tt ag' t hl C0.RO ⟨C0.φ 1000, 0, none⟩ 60 C0.w _ t' u (some (ag', [dx])) old hW.ro hd1 hfd (fun y hy => by cases hy; exact ⟨rfl, _, rfl⟩) hgl hct hfz) fun ev w' he => ?_)
          obtain ⟨rfl, w1, d2, x2, hd2, hrep2, hbl, rfl⟩ := he
          simp only [List.cons.injEq, and_true] at hd2
          subst hd2
          have hc1 : w1.heap[C0.φ 1000]? = some (.cells #[old] e (0, 0)) := by rw [hbl.block _ hφ]; exact hcell
          have k2 : Keep w1 (w1.setCell ⟨C0.φ 1000, 0, none⟩ x2) C0.RO C0.RO := ⟨fun _ _ h => h, fun b o v hro hcv => by
            have hne : b ≠ C0.φ 1000 := fun h => hnro o (h ▸ hro)
            rw [cell_of_heap (heap_setCell_other w1 ⟨C0.φ 1000, 0, none⟩ b x2 hne)]
            exact hcv⟩
          refine ⟨_, rfl, _, [.bool true], rfl, ret_box (w' := w1.setCell ⟨C0.φ 1000, 0, none⟩ x2) (x := y) hW hlk hbl.os hbl.tape hbl.output (by rw [World.size_setCell]; exact hbl.size) (fun b hb hne => ?_) (heap_setCell_same w1 _ 0 _ _ x2 hc1) ?_, rfl, ⟨.ofBool true, trivial⟩, rfl⟩
          · rw [heap_setCell_other _ _ _ _ hne]
            exact hbl.block b hb
          · refine ⟨hwf, ?_⟩
            rw [henc]
            exact Reps.one (hrep2.keep k2)
        · cases h
      · cases h
  · cases h
end Go.Proofs.Cdm
