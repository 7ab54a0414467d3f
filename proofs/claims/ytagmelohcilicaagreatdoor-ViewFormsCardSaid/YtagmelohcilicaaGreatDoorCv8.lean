/-
Operations, one by one: what the machine does stands for what the abstract machine does. First part.
-/
import Derived.Test.YtagmelohcilicaaGreatDoorCv7
namespace Go.Proofs.Cdm
open Go Go.RowKit

/-! ### Operands -/
theorem RA.one {C : Ctx} {t : Ty} {x : t.den} {d : DV} {val : Value} (h : RA C (.ro t x) val) (ha : t.isAgg = false) (he : enc t x = [d]) : Rep C.w C.RO d val := by
  rcases h with h | ⟨cs, h1, h2⟩
  · cases h
  · have h3 := h1.2
    rw [he] at h3
    have hl := h3.1
    match cs, hl, h3, h2 with
    | [v], _, h3, h2 =>
      have := h3.2 0 (by simp) (by simp)
      simp only [AV.agg, ha, pack, Bool.false_eq_true, if_false, List.headD_cons] at h2
      subst h2
      exact this
theorem RA.int {C : Ctx} {k : IntKind} {n : Int} {val : Value} (h : RA C (.ro (.int k) n) val) : val = .int k n := by
  have := h.one rfl rfl
  cases this
  rfl
theorem RA.bool {C : Ctx} {b : Bool} {val : Value} (h : RA C (.ro .bool b) val) : val = .bool b := by
  have := h.one rfl rfl
  cases this
  rfl
theorem RA.str {C : Ctx} {s : List UInt8} {val : Value} (h : RA C (.ro .str s) val) : val = .string ⟨s.toArray⟩ ∧ s.length ≤ 140737488355328 := by
  have := h.one rfl rfl
  cases this
  exact ⟨rfl, by assumption⟩
theorem RA.ofInt {C : Ctx} (k : IntKind) (n : Int) : RA C (.ro (.int k) n) (.int k n) := .inr ⟨[_], ⟨trivial, Reps.one (.int k n)⟩, rfl⟩
theorem RA.ofBool {C : Ctx} (b : Bool) : RA C (.ro .bool b) (.bool b) := .inr ⟨[_], ⟨trivial, Reps.one (.bool b)⟩, rfl⟩
theorem RA.ofStr {C : Ctx} (s : List UInt8) (h : s.length ≤ 140737488355328) : RA C (.ro .str s) (.string ⟨s.toArray⟩) := .inr ⟨[_], ⟨trivial, Reps.one (.str s h)⟩, rfl⟩
theorem RA.rc {C : Ctx} {v : AV} {val : Value} (h : RA C v val) (hv : v ≠ .undef) : ∃ cs, RC C v cs ∧ val = pack v.agg cs := by
  rcases h with h | h
  · exact absurd h hv
  · exact h
theorem RA.nils {C : Ctx} {t : Ty} {val : Value} (h : RA C (.nils t) val) : ∃ a, plainA a = true ∧ val = .slice a 0 0 := by
  obtain ⟨cs, ⟨a, ha, rfl⟩, rfl⟩ := h.rc (by simp)
  exact ⟨a, ha, rfl⟩

theorem pack_cells {v : AV} {t : Ty} {C : Ctx} {cs : List Value} (hf : fits v t = true) (h : RC C v cs) : (pack v.agg cs).cells = cs.toArray := by
  have hl := fits_length v t cs hf h
  have h1 := fits_one v t cs hf h
  rw [fits_agg hf]
  unfold pack
  cases ha : t.isAgg with
  | true => rfl
  | false =>
    have hs : t.size = 1 := by cases t <;> simp_all [Ty.isAgg, Ty.size]
    rw [hs] at hl
    match cs, hl with
    | [c], _ => simp only [Bool.false_eq_true, if_false, List.headD_cons]; exact (h1 c (by simp)).1

variable {E : Env} {O : Old} {st : St} {a : Act} {C : Ctx}
theorem ty_ev {α : Type} {t : TypeId} {k : TI → Q α} {r : α} (h : (ty E t k).ev st = some r) : ∃ i, E.T t = some i ∧ (k i).ev st = some r := by
  unfold ty at h
  split at h
  · rename_i i hi; exact ⟨i, hi, h⟩
  · cases h
theorem chk_ev {α : Type} {p : Prop} {dp : Decidable p} {k : Q α} {r : α} (h : (Q.chk p dp k).ev st = some r) : p ∧ k.ev st = some r := by
  simp only [Q.ev] at h
  split at h
  · rename_i hp; exact ⟨hp, h⟩
  · cases h
theorem opt_ev {α β : Type} {o : Option β} {k : β → Q α} {r : α} (h : (Q.opt o k).ev st = some r) : ∃ b, o = some b ∧ (k b).ev st = some r := by
  simp only [Q.ev, Option.bind_eq_some_iff] at h
  exact h
theorem asInt_ev {α : Type} {v : AV} {k : IntKind → Int → Q α} {r : α} (h : (asInt v k).ev st = some r) : ∃ (j : IntKind) (n : Int), v = .ro (.int j) n ∧ (k j n).ev st = some r := by
  unfold asInt at h
  split at h
  · exact ⟨_, _, rfl, h⟩
  · cases h
theorem asBool_ev {α : Type} {v : AV} {k : Bool → Q α} {r : α} (h : (asBool v k).ev st = some r) : ∃ b, v = .ro .bool b ∧ (k b).ev st = some r := by
  unfold asBool at h
  split at h
  · exact ⟨_, rfl, h⟩
  · cases h
theorem opd_sound {α : Type} {t : TypeId} {x : Operand} {k : AV → Q α} {r : α} (hi : Inv O st a C) (h : (opd E t x k).ev st = some r) : ∃ v, (k v).ev st = some r ∧ RA C v (a.eval x) := by
  cases x with
  | tmp u =>
    refine ⟨_, h, ?_⟩
    unfold St.t
    cases hl : look st.tm u with
    | none => exact .inl rfl
    | some v => exact hi.tm u v hl
  | const v =>
    simp only [opd] at h
    show ∃ w, (k w).ev st = some r ∧ RA C w v
    unfold constA at h
    split at h
    · exact ⟨_, h, .ofInt _ _⟩
    · exact ⟨_, h, .ofBool _⟩
    · rename_i s
      simp only [Q.ev] at h
      split at h
      · rename_i hle
        refine ⟨_, h, ?_⟩
        have : (⟨s.data.toList.toArray⟩ : ByteArray) = s := by cases s; simp
        have := RA.ofStr (C := C) s.data.toList hle
        rwa [‹(⟨s.data.toList.toArray⟩ : ByteArray) = s›] at this
      · cases h
    · exact ⟨_, h, .inr ⟨[_], ⟨rfl, Reps.one .nilI⟩, rfl⟩⟩
    · obtain ⟨i, _, h⟩ := ty_ev h
      split at h
      · exact ⟨_, h, .inr ⟨[_], ⟨none, rfl, rfl⟩, rfl⟩⟩
      · cases h
    · exact ⟨_, h, .inr ⟨[_], ⟨_, rfl, rfl, rfl⟩, rfl⟩⟩
    · exact ⟨_, h, .inr ⟨[_], ⟨_, rfl, rfl, rfl⟩, rfl⟩⟩
    · cases h
  | func f => exact ⟨_, h, .inr ⟨[_], ⟨[], [], rfl, rfl, rfl⟩, rfl⟩⟩
  | global g => cases h

def RAs (C : Ctx) : List AV → List Value → Prop
  | [], [] => True
  | v :: vs, x :: xs => RA C v x ∧ RAs C vs xs
  | _, _ => False
theorem RAs.length {C : Ctx} : ∀ {vs : List AV} {xs : List Value}, RAs C vs xs → vs.length = xs.length
  | [], [], _ => rfl
  | _ :: _, _ :: _, h => by simp [h.2.length]
theorem RAs.ext {C C' : Ctx} (he : Ext C C') : ∀ {vs : List AV} {xs : List Value}, RAs C vs xs → RAs C' vs xs
  | [], [], _ => trivial
  | _ :: _, _ :: _, h => ⟨h.1.ext he, h.2.ext he⟩
theorem opds_sound {α : Type} {r : α} (hi : Inv O st a C) : ∀ {l : List (TypeId × Operand)} {k : List AV → Q α}, (opds E l k).ev st = some r → ∃ vs, (k vs).ev st = some r ∧ RAs C vs (l.map fun x => a.eval x.2)
  | [], k, h => ⟨[], h, trivial⟩
  | (t, x) :: l, k, h => by
    obtain ⟨v, h1, h2⟩ := opd_sound hi h
    obtain ⟨vs, h3, h4⟩ := opds_sound hi h1
    exact ⟨v :: vs, h3, h2, h4⟩

/-! ### What an operation comes to -/
def DoneOk (O : Old) (P : Program) (o : Oper) (a : Act) (C : Ctx) (tm : List (Nat × AV)) (si : List (Nat × Blk)) : Prop :=
  ∃ nx C', (execOp a.eval o).run P C.w = .ok nx C'.w ∧ Ext C C' ∧ CInv O C' ∧ C'.si = si ++ C.si ∧
    ((tm = [] ∧ o.dst = none ∧ (nx = .skip ∨ ∃ val, nx = .value val)) ∨ ∃ d v val, tm = [(d, v)] ∧ o.dst = some d ∧ nx = .value val ∧ RA C' v val)
theorem put1_ok {p : Pend} {o : Oper} {v : AV} {si : List (Nat × Blk)} {P : Program} (h : (put1 o v si).ev st = some p) (C' : Ctx) (val : Value) (hr : (execOp a.eval o).run P C.w = .ok (.value val) C'.w)
    (he : Ext C C') (hc : CInv O C') (hs : C'.si = si ++ C.si) (hv : RA C' v val) : ∃ tm si, p = .done tm si ∧ DoneOk O P o a C tm si := by
  unfold put1 at h
  split at h
  · rename_i d hd
    simp only [Q.ev, Option.some.injEq] at h
    exact ⟨_, _, h.symm, _, C', hr, he, hc, hs, .inr ⟨d, v, val, rfl, hd, rfl, hv⟩⟩
  · rename_i hd
    simp only [Q.ev, Option.some.injEq] at h
    exact ⟨_, _, h.symm, _, C', hr, he, hc, hs, .inl ⟨rfl, hd, .inr ⟨val, rfl⟩⟩⟩
theorem put1_same {p : Pend} {o : Oper} {v : AV} {P : Program} (hi : Inv O st a C) (h : (put1 o v []).ev st = some p) (val : Value) (hr : (execOp a.eval o).run P C.w = .ok (.value val) C.w)
    (hv : RA C v val) : ∃ tm si, p = .done tm si ∧ DoneOk O P o a C tm si := put1_ok h C val hr (Ext.refl C) hi.c (by simp) hv
/-- With marks alone. -/
theorem put1_mark {p : Pend} {o : Oper} {v : AV} {m : List (Nat × Blk)} {P : Program} (hi : Inv O st a C) (h : (put1 o v m).ev st = some p) (hm : Valid C m) (val : Value) (hr : (execOp a.eval o).run P C.w = .ok (.value val) C.w)
    (hv : RA (C.mk' m) v val) : ∃ tm si, p = .done tm si ∧ DoneOk O P o a C tm si := put1_ok h (C.mk' m) val hr (Ext.mark hm) (hi.c.mark hm) rfl hv
abbrev OpOk (E : Env) (O : Old) (o : Oper) (a : Act) (C : Ctx) (p : Pend) : Prop := ∃ tm si, p = .done tm si ∧ DoneOk O E.P o a C tm si

theorem fresh_ev {α : Type} {o : Oper} {k : Nat → Q α} {r : α} (hi : Inv O st a C) (h : (fresh o k).ev st = some r) : ∃ d, o.dst = some d ∧ look C.si d = none ∧ (k d).ev st = some r := by
  unfold fresh at h
  split at h
  · rename_i d hd
    simp only [Q.ev] at h
    split at h
    · rename_i hs
      exact ⟨d, hd, by rw [hi.si]; exact hs, h⟩
    · cases h
  · cases h

theorem move_ok {o : Oper} {x : Operand} {p : Pend} (hi : Inv O st a C) (ho : o.op = .move x ∨ o.op = .assign x) (h : (opQ E o).ev st = some p) : OpOk E O o a C p := by
  have h' : (opd E o.type x fun v => put1 o v []).ev st = some p := by rcases ho with ho | ho <;> (unfold opQ at h; rw [ho] at h; exact h)
  obtain ⟨v, h1, h2⟩ := opd_sound hi h'
  exact put1_same hi h1 (a.eval x) (by rcases ho with ho | ho <;> simp [execOp, ho]) h2
theorem pick_ok {o : Oper} {c x y : Operand} {p : Pend} (hi : Inv O st a C) (ho : o.op = .pick c x y) (h : (opQ E o).ev st = some p) : OpOk E O o a C p := by
  unfold opQ at h
  rw [ho] at h
  obtain ⟨vc, h, hc⟩ := opd_sound hi h
  obtain ⟨vx, h, hx⟩ := opd_sound hi h
  obtain ⟨vy, h, hy⟩ := opd_sound hi h
  obtain ⟨b, rfl, h⟩ := asBool_ev h
  have hc := hc.bool
  cases b with
  | true => exact put1_same hi h (a.eval x) (by simp [execOp, ho, hc, Go.asBool]) hx
  | false => exact put1_same hi h (a.eval y) (by simp [execOp, ho, hc, Go.asBool]) hy
theorem nilCheck_ok {o : Oper} {x : Operand} {p : Pend} (hi : Inv O st a C) (ho : o.op = .nilCheck x) (h : (opQ E o).ev st = some p) : OpOk E O o a C p := by
  unfold opQ at h
  rw [ho] at h
  obtain ⟨v, h, hv⟩ := opd_sound hi h
  split at h
  · obtain ⟨cs, ⟨ad, rfl, _⟩, e⟩ := hv.rc (by simp)
    simp only [AV.agg, pack, Bool.false_eq_true, if_false, List.headD_cons] at e
    exact put1_same hi h (a.eval x) (by simp [execOp, ho, e]) hv
  · obtain ⟨cs, ⟨b, o', us, rfl, _⟩, e⟩ := hv.rc (by simp)
    simp only [AV.agg, pack, Bool.false_eq_true, if_false, List.headD_cons] at e
    exact put1_same hi h (a.eval x) (by simp [execOp, ho, e]) hv
  · obtain ⟨cs, ⟨ad, rfl, _⟩, e⟩ := hv.rc (by simp)
    simp only [AV.agg, pack, Bool.false_eq_true, if_false, List.headD_cons] at e
    exact put1_same hi h (a.eval x) (by simp [execOp, ho, e]) hv
  · cases h
theorem unOp_ok {o : Oper} {op : UnOp} {t : TypeId} {x : Operand} {p : Pend} (hi : Inv O st a C) (ho : o.op = .unOp op t x) (h : (opQ E o).ev st = some p) : OpOk E O o a C p := by
  unfold opQ at h
  rw [ho] at h
  obtain ⟨v, h, hv⟩ := opd_sound hi h
  unfold unQ at h
  split at h
  · have hv := hv.bool
    exact put1_same hi h _ (by simp [execOp, ho, hv, Op.unary]) (.ofBool _)
  · have hv := hv.int
    exact put1_same hi h _ (by simp [execOp, ho, hv, Op.unary, Op.intArith]) (.ofInt _ _)
  · have hv := hv.int
    exact put1_same hi h _ (by simp [execOp, ho, hv, Op.unary, Op.intBits]) (.ofInt _ _)
  · cases h

theorem run_zero {P : Program} {t : TypeId} {j : TypeInfo} {z : Value} (h : P.info? t = some j) (hz : j.zero = some z) (w : World) : (zeroValue t).run P w = .ok z w := by
  simp [zeroValue, typeInfo, program, Sem.run, h, hz]
theorem run_sizeOf' {P : Program} {t : TypeId} {j : TypeInfo} (h : P.info? t = some j) (w : World) : (sizeOf t).run P w = .ok j.size w := by
  simp [sizeOf, typeInfo, program, Sem.run, h]
theorem run_typeInfo' {P : Program} {t : TypeId} {j : TypeInfo} (h : P.info? t = some j) (w : World) : (typeInfo t).run P w = .ok j w := by
  simp [typeInfo, program, Sem.run, h]
theorem run_isAgg' {P : Program} {t : TypeId} {d : TypeDesc} (h : P.underlying t = some d) (w : World) : (isAgg t).run P w = .ok (aggD d) w := by
  simp only [isAgg, Sem.run_bind, run_underlying h, Result.andThen_ok]
  cases d <;> rfl
theorem run_newVar (P : Program) (t : TypeId) (v : Value) (w : World) : (newVar t v).run P w = .ok ⟨w.heap.size, 0, none⟩ (w.alloc (.cells v.cells t)) := by
  rfl
theorem below_alloc (w : World) (o : Obj) : Below w.heap.size w (w.alloc o) := (Below.refl _ _).alloc (Nat.le_refl _) o

/-- A new variable. -/
theorem newBox {d : Nat} {t : Ty} {v : AV} {cells : Array Value} {e : TypeId} (hc : CInv O C) (hd : look C.si d = none) (hd' : ¬ (1000 ≤ d ∧ d < 10000)) (hf : fits v t = true) (hv : RC C v cells.toList) :
    ∃ C', C'.w = C.w.alloc (.cells cells e) ∧ Ext C C' ∧ CInv O C' ∧ C'.si = [(d, .box t v)] ++ C.si ∧ RA C' (.ptr d [] t) (.pointer (some ⟨C.w.heap.size, 0, none⟩)) := by
  have hb := below_alloc C.w (.cells cells e)
  obtain ⟨he, hc'⟩ := grow1 (d := d) (b := .box t v) (k := C.w.heap.size) (v := undef) hc hb hd hd' (by
    rintro C' rfl he
    refine ⟨hf, cells, e, ?_, hv.ext he, fun o hr => ?_⟩
    · simp only [Ctx.with, if_true]
      exact heap_alloc_new _ _
    · simp only [Ctx.with, if_true] at hr
      have := hc.wok.ro _ _ hr
      omega) (by
    intro n hn
    simp only [blkOf, Ctx.with, if_true, Option.some.injEq] at hn
    omega)
  refine ⟨_, rfl, he, hc', rfl, .inr ⟨[_], ⟨_, rfl, ⟨.box t v, by simp [Ctx.with, look_cons]⟩, fun u w hl => ?_⟩, rfl⟩⟩
  simp only [Ctx.with, look_cons, if_true, Option.some.injEq, Blk.box.injEq] at hl
  obtain ⟨rfl, _⟩ := hl
  exact ⟨0, rfl, by simp [Ctx.with]⟩
theorem alloc_ok {o : Oper} {t : TypeId} {p : Pend} (hT : ∀ t i, E.T t = some i → TIok E.P t i) (hi : Inv O st a C) (hd : ∀ d : Nat, o.dst = some d → d < 1000) (ho : o.op = .alloc t) (h : (opQ E o).ev st = some p) : OpOk E O o a C p := by
  unfold opQ at h
  rw [ho] at h
  obtain ⟨i, ht, h⟩ := ty_ev h
  obtain ⟨d, hdd, hl, h⟩ := fresh_ev hi h
  have ok := hT t i ht
  obtain ⟨j, z, hj, hz, hzc⟩ := ok.zero
  obtain ⟨us, e, hz2⟩ := zeroA_ok (C := C) i.ty _ _ ok.arr hzc
  rw [List.append_nil] at e
  obtain ⟨C', h1, h2, h3, h4, h5⟩ := newBox (e := t) hi.c hl (by have := hd d hdd; omega) (zeroA_fits i.ty) (cells := z.cells) (by rw [e]; exact hz2)
  exact put1_ok h C' _ (by simp only [execOp, ho, Instr.alloc, Sem.run_bind, run_zero hj hz, Result.andThen_ok, run_newVar, Sem.run_pure, h1]) h2 h3 h4 h5
theorem box_ok {o : Oper} {t : TypeId} {x : Operand} {p : Pend} (hi : Inv O st a C) (hd : ∀ d : Nat, o.dst = some d → d < 1000) (ho : o.op = .box t x) (h : (opQ E o).ev st = some p) : OpOk E O o a C p := by
  unfold opQ at h
  rw [ho] at h
  obtain ⟨i, ht, h⟩ := ty_ev h
  obtain ⟨v, h, hv⟩ := opd_sound hi h
  obtain ⟨hf, h⟩ := chk_ev h
  obtain ⟨d, hdd, hl, h⟩ := fresh_ev hi h
  obtain ⟨cs, hv, e⟩ := hv.rc (by rintro rfl; cases i.ty <;> simp [fits] at hf)
  have hcells := pack_cells hf hv
  obtain ⟨C', h1, h2, h3, h4, h5⟩ := newBox (e := t) hi.c hl (by have := hd d hdd; omega) hf (cells := (pack v.agg cs).cells) (by rw [hcells]; exact hv)
  exact put1_ok h C' _ (by simp only [execOp, ho, Instr.box, Sem.run_bind, run_newVar, Result.andThen_ok, Sem.run_pure, h1, e]) h2 h3 h4 h5
end Go.Proofs.Cdm
