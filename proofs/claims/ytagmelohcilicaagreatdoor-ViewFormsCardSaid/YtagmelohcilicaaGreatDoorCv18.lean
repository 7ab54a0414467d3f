/-
Calls, first part: what is handed over.
-/
import Derived.Test.YtagmelohcilicaaGreatDoorCv17
import GoSem.ClaimJoined
namespace Go.Proofs.Cdm
open Go Go.RowKit
variable {E : Env} {O : Old} {st : St} {a : Act} {C : Ctx}

/-- A function's run, Go's own or not. -/
def Enters (P : Program) (f : FuncId) (args : Array Value) (w : World) (R : Value → World → Prop) : Prop :=
  ∃ nx w1, (callFunc f args).run P w = .ok nx w1 ∧ match nx with
    | .value v => R v w1
    | .enter g as => Calls P g as w1 fun e w' => match e with
      | .returned v => R v w'
      | _ => False
    | _ => False
theorem Calls.mono' {P : Program} {f : FuncId} {args : Array Value} {w : World} {R R' : Ending → World → Prop} (h : Calls P f args w R) (hr : ∀ e w', R e w' → R' e w') : Calls P f args w R' :=
  fun cs => let ⟨e, w', fr, r, s⟩ := h cs; ⟨e, w', fr, hr _ _ r, s⟩
theorem Enters.mono {P : Program} {f : FuncId} {args : Array Value} {w : World} {R R' : Value → World → Prop} (h : Enters P f args w R) (hr : ∀ v w', R v w' → R' v w') : Enters P f args w R' := by
  obtain ⟨nx, w1, h1, h2⟩ := h
  refine ⟨nx, w1, h1, ?_⟩
  cases nx <;> try exact h2.elim
  · exact hr _ _ h2
  · refine Calls.mono' h2 fun e w' h => ?_
    cases e <;> try exact h.elim
    exact hr _ _ h

def tup (l : List Value) : Value := match l with
  | [v] => v
  | l => .tuple l.toArray
/-- What a call leaves behind. -/
structure RetOk (C0 : Ctx) (nb : Nat) (C' : Ctx) : Prop where
  wok : WOk C'
  os : C'.w.os = C0.w.os
  tape : C'.w.tape = C0.w.tape
  output : C'.w.output = C0.w.output
  grow : C0.w.heap.size ≤ C'.w.heap.size
  old : ∀ b, b < C0.w.heap.size → (∀ j, j < nb → C0.φ (1000 + j) ≠ b) → C'.w.heap[b]? = C0.w.heap[b]?
  roOld : ∀ b o, C0.RO b o → C'.RO b o
  roNew : ∀ b o, C'.RO b o → C0.RO b o ∨ C0.w.heap.size ≤ b
  bor : ∀ j, j < nb → C'.φ (1000 + j) = C0.φ (1000 + j)
  new : ∀ d b k, look C'.si d = some b → blkOf C' d b = some k → (∃ j, j < nb ∧ d = 1000 + j) ∨ C0.w.heap.size ≤ k
/-- The library's own variable that errors.As reads: the handle of the type 'error'. -/
def glob (P : Program) (g : Nat) (v : Value) : Prop :=
  P.globalNamed "errors.errorType" = some g ∧ ∃ u t, (P.cutTypes.find? (·.1 == "internal/reflectlite.rtype")).map (·.2) = some u ∧ t < P.types.size ∧ P.rowNamed t [101, 114, 114, 111, 114] = true ∧ v = .iface u (.agg #[typeHandle P t])
def GlobOk (P : Program) (w : World) (RO : Nat → Nat → Prop) : Prop := ∀ g v, glob P g v → RO g 0 ∧ w.cell? ⟨g, 0, none⟩ = some v
theorem GlobOk.keep {P : Program} {w w' : World} {RO RO' : Nat → Nat → Prop} (h : GlobOk P w RO) (k : Keep w w' RO RO') : GlobOk P w' RO' :=
  fun g v hg => ⟨k.ro _ _ (h g v hg).1, k.cell _ _ _ (h g v hg).1 (h g v hg).2⟩
/-- A call's contract, at what the abstract machine hands over. -/
def CallOk (P : Program) (f : FuncId) (args : List AV) (bs : List Blk) (r : Ret) : Prop :=
  ∀ (C0 : Ctx) (vals : List Value), C0.si = enter.number 1000 bs → (∀ b ∈ bs, ∃ t x, b = Blk.box t (.ro t x)) → GlobOk P C0.w C0.RO → RAs C0 args vals → WOk C0 →
    Enters P f vals.toArray C0.w fun v w' => ∃ C' us, C'.w = w' ∧ RetOk C0 bs.length C' ∧ C'.si = enter.number 1000 r.2 ∧ RAs C' r.1 us ∧ v = tup us

theorem look_number {α : Type} : ∀ (l : List α) (s k : Nat), look (enter.number s l) k = if s ≤ k then l[k - s]? else none
  | [], s, k => by simp [enter.number, look_nil]
  | a :: l, s, k => by
    simp only [enter.number, look_cons]
    by_cases h : s = k
    · subst h; simp
    · rw [if_neg h, look_number l (s + 1) k]
      by_cases h1 : s ≤ k
      · rw [if_pos h1, if_pos (by omega), show k - s = (k - (s + 1)) + 1 by omega, List.getElem?_cons_succ]
      · rw [if_neg h1, if_neg (by omega)]

/-! ### Names -/
theorem addId_mem (l : List Nat) (d x : Nat) : x ∈ addId l d ↔ x ∈ l ∨ x = d := by
  unfold addId
  cases h : l.any (Nat.beq d) with
  | true =>
    simp only [cond_true]
    constructor
    · exact .inl
    · rintro (h1 | rfl)
      · exact h1
      · rw [List.any_eq_true] at h
        obtain ⟨y, h1, h2⟩ := h
        rw [Nat.eq_of_beq_eq_true h2]
        exact h1
  | false => simp
theorem addId_nodup (l : List Nat) (d : Nat) (h : l.Nodup) : (addId l d).Nodup := by
  unfold addId
  cases h' : l.any (Nat.beq d) with
  | true => exact h
  | false =>
    simp only [cond_false]
    rw [List.nodup_append]
    refine ⟨h, by simp, ?_⟩
    intro x hx y hy
    simp at hy
    subst hy
    rintro rfl
    rw [List.any_eq_false] at h'
    exact h' x hx (Nat.beq_refl x)
theorem addIds_mem : ∀ (ds l : List Nat) (x : Nat), x ∈ ds.foldl addId l ↔ x ∈ l ∨ x ∈ ds
  | [], l, x => by simp
  | d :: ds, l, x => by rw [List.foldl_cons, addIds_mem ds, addId_mem]; simp [or_assoc]
theorem addIds_nodup : ∀ (ds l : List Nat), l.Nodup → (ds.foldl addId l).Nodup
  | [], _, h => h
  | d :: ds, l, h => addIds_nodup ds _ (addId_nodup l d h)
theorem place_go (d : Nat) : ∀ (l : List Nat) (n : Nat), d ∈ l → ∃ j, l[j]? = some d ∧ place.go d l n = n + j
  | [], _, h => by simp at h
  | x :: r, n, h => by
    unfold place.go
    cases hb : Nat.beq x d with
    | true => exact ⟨0, by simp [Nat.eq_of_beq_eq_true hb], by simp⟩
    | false =>
      have hne : x ≠ d := fun e => by rw [e, Nat.beq_refl] at hb; cases hb
      obtain ⟨j, h1, h2⟩ := place_go d r (n + 1) (by rcases List.mem_cons.1 h with e | h; exact absurd e.symm hne; exact h)
      exact ⟨j + 1, by simpa using h1, by simp only [cond_false]; rw [h2]; omega⟩
theorem ren_agg (l : List Nat) (v : AV) : (ren l v).agg = v.agg := by cases v <;> rfl
/-- Renamed. -/
theorem ren_ok {C C0 : Ctx} {l : List Nat} (hw : C0.w = C.w) (hro : ∀ b o, C.RO b o → C0.RO b o) (hl : ∀ d ∈ l, ∃ t v v', look C.si d = some (.box t v) ∧ look C0.si (place l d) = some (.box t v') ∧ C0.φ (place l d) = C.φ d) :
    ∀ (m : Bool) (v : AV) (vs : List Value), clean v = true → (∀ d ∈ ids v, d ∈ l) → RCm C m v vs → RCm C0 m (ren l v) vs := by
  have hk : Keep C.w C0.w C.RO C0.RO := ⟨hro, fun b o v _ h => by rw [hw]; exact h⟩
  intro m v
  induction v generalizing m with
  | ro t x => cases m; exact fun vs _ _ hv => RepT.keep hk hv; exact fun _ _ _ hv => hv
  | nils t => cases m <;> exact fun _ _ _ hv => hv
  | own d g => intro vs h; simp [clean] at h
  | ptr d p u =>
    cases m
    · rintro vs _ hd ⟨a, h1, _, h3⟩
      obtain ⟨t, v, v', h4, h5, h6⟩ := hl d (hd d (by simp [ids]))
      refine ⟨a, h1, ⟨_, h5⟩, fun t' w' hh => ?_⟩
      rw [h5] at hh
      injection hh with hh
      injection hh with hh _
      subst hh
      rw [h6]
      exact h3 _ _ h4
    · exact fun _ _ _ hv => hv
  | pel d g i p u => intro vs h; simp [clean] at h
  | rpt t x =>
    cases m
    · rintro vs _ _ ⟨b, o, us, h1, h2, h3⟩
      exact ⟨b, o, us, h1, h2.keep hk, fun j v hj => ⟨hk.cell _ _ _ (h3 j v hj).2 (h3 j v hj).1, hk.ro _ _ (h3 j v hj).2⟩⟩
    · exact fun _ _ _ hv => hv
  | unit => cases m <;> exact fun _ _ _ hv => hv
  | pair a b iha ihb =>
    intro vs hc hd
    simp only [clean, Bool.and_eq_true] at hc
    have hda : ∀ d ∈ ids a, d ∈ l := fun d h => hd d (by simp [ids, h])
    have hdb : ∀ d ∈ ids b, d ∈ l := fun d h => hd d (by simp [ids, h])
    cases m
    · rintro ⟨u, t, h1, h2, h3⟩
      exact ⟨u, t, h1, iha false _ hc.1 hda h2, ihb false _ hc.2 hdb h3⟩
    · intro hv
      simp only [ren]
      rw [RCm_pair] at hv ⊢
      obtain ⟨v, us, h1, h2, h3⟩ := hv
      refine ⟨v, us, h1, ?_, ihb true _ hc.2 hdb h3⟩
      rcases h2 with h2 | ⟨cs, h2, h4⟩
      · subst h2; simp [clean] at hc
      · exact .inr ⟨cs, iha false _ hc.1 hda h2, by rw [ren_agg]; exact h4⟩
  | tup a iha => intro vs h; simp [clean] at h
  | fn f a b iha ihb =>
    intro vs hc hd
    simp only [clean, Bool.and_eq_true] at hc
    have hda : ∀ d ∈ ids a, d ∈ l := fun d h => hd d (by simp [ids, h])
    have hdb : ∀ d ∈ ids b, d ∈ l := fun d h => hd d (by simp [ids, h])
    cases m
    · rintro ⟨us, ts, h1, h2, h3⟩
      exact ⟨us, ts, h1, iha true _ hc.1 hda h2, ihb true _ hc.2 hdb h3⟩
    · exact fun hv => hv
  | ipt t d =>
    cases m
    · rintro vs _ hd ⟨a, h1, _, h3⟩
      obtain ⟨t, v, v', h4, h5, h6⟩ := hl d (hd d (by simp [ids]))
      refine ⟨a, h1, ⟨_, h5⟩, fun t' w' hh => ?_⟩
      rw [h6]
      exact h3 _ _ h4
    · exact fun _ _ _ hv => hv
  | nilp => cases m <;> exact fun _ _ _ hv => hv
  | undef => intro vs h; simp [clean] at h
theorem rens_ok {C C0 : Ctx} {l : List Nat} (hw : C0.w = C.w) (hro : ∀ b o, C.RO b o → C0.RO b o) (hl : ∀ d ∈ l, ∃ t v v', look C.si d = some (.box t v) ∧ look C0.si (place l d) = some (.box t v') ∧ C0.φ (place l d) = C.φ d) :
    ∀ (vs : List AV) (xs : List Value), vs.all clean = true → (∀ d ∈ vs.flatMap ids, d ∈ l) → RAs C vs xs → RAs C0 (vs.map (ren l)) xs
  | [], [], _, _, _ => trivial
  | v :: vs, x :: xs, hc, hd, h => by
    simp only [List.all_cons, Bool.and_eq_true] at hc
    refine ⟨?_, rens_ok hw hro hl vs xs hc.2 (fun d hd' => hd d (by simp only [List.flatMap_cons, List.mem_append]; exact .inr hd')) h.2⟩
    obtain ⟨cs, h1, h2⟩ := h.1.rc (by rintro rfl; simp [clean] at hc)
    exact .inr ⟨cs, ren_ok hw hro hl false v cs hc.1 (fun d hd' => hd d (by simp only [List.flatMap_cons, List.mem_append]; exact .inl hd')) h1, by rw [ren_agg]; exact h2⟩
  | [], _ :: _, _, _, h => h.elim
  | _ :: _, [], _, _, h => h.elim
theorem chain_ras {C : Ctx} : ∀ {a : AV} {us : List Value}, RCm C true a us → RAs C (chain a) us := by
  intro a
  induction a with
  | pair a b _ ih =>
    intro us h
    rw [RCm_pair] at h
    obtain ⟨v, vs, rfl, h1, h2⟩ := h
    exact ⟨h1, ih h2⟩
  | unit => intro us h; have h : us = [] := h; subst h; trivial
  | _ => intro us h; exact h.elim
theorem RAs.append {C : Ctx} : ∀ {a b : List AV} {x y : List Value}, RAs C a x → RAs C b y → RAs C (a ++ b) (x ++ y)
  | [], _, [], _, _, h => h
  | _ :: _, _, _ :: _, _, h, k => ⟨h.1, h.2.append k⟩

/-! ### Arguments -/
theorem look_valid {C : Ctx} {n : List (Nat × Blk)} (hn : Valid C n) {d : Nat} {b : Blk} (hb : look (n ++ C.si) d = some b) :
    look C.si d = some b ∨ (∃ t e g ex l, b = .sl t e g false l ∧ look C.si d = some (.sl t e g ex l)) ∨ (∃ t v, b = .dead ∧ look C.si d = some (.box t v)) := by
  rw [look_append] at hb
  cases hnd : look n d with
  | none => rw [hnd] at hb; exact .inl hb
  | some b1 =>
    rw [hnd] at hb
    simp at hb
    subst hb
    rcases hn _ (look_mem hnd) with ⟨t, e, g, ex, l, h1, h2⟩ | ⟨t, v, h1, h2, _⟩
    · exact .inr (.inl ⟨t, e, g, ex, l, h1, h2⟩)
    · exact .inr (.inr ⟨t, v, h1, h2⟩)
theorem Ext.mark_sub {C : Ctx} {m n : List (Nat × Blk)} (hm : Valid C m) (hn : Valid C n) : Ext (C.mk' n) (C.mk' (m ++ n)) := by
  refine ⟨keep_mono (C := C) (m := n) (n := m ++ n) (fun x hx => by simp [hx]), fun d b hb => ?_⟩
  have hb : look (n ++ C.si) d = some b := hb
  have lk : look ((m ++ n) ++ C.si) d = (look m d).or (look (n ++ C.si) d) := by rw [List.append_assoc, look_append]
  cases hmd : look m d with
  | none => exact ⟨b, by show look ((m ++ n) ++ C.si) d = _; rw [lk, hmd, hb]; rfl, fun t v' h' => ⟨⟨v', h'⟩, rfl⟩, fun t e g' ex' l' h' => ⟨g', ex', l', h', Nat.le_refl _, fun _ => ⟨rfl, rfl⟩⟩⟩
  | some b1 =>
    refine ⟨b1, by show look ((m ++ n) ++ C.si) d = _; rw [lk, hmd]; rfl, fun t v' h' => ?_, fun t e g' ex' l' h' => ?_⟩
    · rcases hm _ (look_mem hmd) with ⟨_, _, _, _, _, h1, _⟩ | ⟨_, _, h1, _⟩ <;> (simp only at h1; rw [h'] at h1; cases h1)
    · rcases hm _ (look_mem hmd) with ⟨t1, e1, g1, ex1, l1, h1, h2⟩ | ⟨_, _, h1, _⟩
      · simp only at h1
        rw [h'] at h1
        cases h1
        simp only at h2
        rcases look_valid hn hb with h3 | ⟨t3, e3, g3, ex3, l3, h3, h4⟩ | ⟨t3, v3, h3, h4⟩
        · rw [h2] at h3; cases h3; exact ⟨_, _, _, rfl, Nat.le_refl _, fun _ => ⟨rfl, rfl⟩⟩
        · rw [h2] at h4; cases h4; exact ⟨_, _, _, h3, Nat.le_refl _, fun _ => ⟨rfl, rfl⟩⟩
        · rw [h2] at h4; cases h4
      · simp only at h1; rw [h'] at h1; cases h1
theorem argQ_sound {α : Type} {r : α} (hi : Inv O st a C) {t : TypeId} {v : AV} {x : Value} {k : AV → List (Nat × Blk) → Q α} (hv : RA C v x) (h : (argQ E t v k).ev st = some r) :
    ∃ v' m, (k v' m).ev st = some r ∧ Valid C m ∧ RA (C.mk' m) v' x := by
  have gen : (ty E t fun i => toT i.ty v fun x m => k (.ro i.ty x) m).ev st = some r → ∃ v' m, (k v' m).ev st = some r ∧ Valid C m ∧ RA (C.mk' m) v' x := by
    intro h
    have hq_ := ty_ev h
    clear h
    obtain ⟨i, hti, h⟩ := hq_
    have hag := toT_agg h
    obtain ⟨us, hus, e⟩ := hv.rc (by rintro rfl; cases i.ty <;> simp [toT, toT0, Q.ev] at h)
    have hq_ := toT_sound hi.si hi.c.wok v i.ty us _ hus h
    clear h
    obtain ⟨y, m, h, hm, hy⟩ := hq_
    exact ⟨_, m, h, hm, .inr ⟨us, hy, by rw [e, hag]; rfl⟩⟩
  cases v with
  | ptr d p u => exact ⟨_, [], h, Valid.nil C, hv.ext (Ext.mark (Valid.nil C))⟩
  | fn f p u => exact ⟨_, [], h, Valid.nil C, hv.ext (Ext.mark (Valid.nil C))⟩
  | ipt d p => exact ⟨_, [], h, Valid.nil C, hv.ext (Ext.mark (Valid.nil C))⟩
  | _ => exact gen h
theorem argsQ_sound {α : Type} {r : α} (hi : Inv O st a C) : ∀ (l : List (TypeId × AV)) (xs : List Value) (k : List AV → List (Nat × Blk) → Q α), RAs C (l.map (·.2)) xs → (argsQ E l k).ev st = some r →
    ∃ vs m, (k vs m).ev st = some r ∧ Valid C m ∧ RAs (C.mk' m) vs xs
  | [], [], k, _, h => ⟨[], [], h, Valid.nil C, trivial⟩
  | (t, v) :: l, x :: xs, k, hr, h => by
    have hq1 := argQ_sound hi hr.1 h
    clear h
    obtain ⟨v', m, h, hm, hv'⟩ := hq1
    have hq1 := argsQ_sound hi l xs _ hr.2 h
    clear h
    obtain ⟨vs, n, h, hn, hvs⟩ := hq1
    exact ⟨v' :: vs, m ++ n, h, hm.append hn, hv'.ext (Ext.mark_mono hm hn), hvs.ext (Ext.mark_sub hm hn)⟩
  | [], _ :: _, _, h, _ => h.elim
  | _ :: _, [], _, h, _ => h.elim

/-! ### Variables that are handed over -/
def BoxOk (C : Ctx) (m : List (Nat × Blk)) (d : Nat) (t : Ty) (b : Blk) : Prop :=
  ∃ v x c e, look C.si d = some (.box t v) ∧ b = .box t (.ro t x) ∧ C.w.heap[C.φ d]? = some (.cells c e (0, 0)) ∧ RepT C.w (ROm C m) t x c.toList
theorem boxes_sound {α : Type} {r : α} (hi : Inv O st a C) : ∀ (l : List Nat) (k : List (Nat × Ty) → List Blk → List (Nat × Blk) → Q α), (boxes l k).ev st = some r →
    ∃ is bs m, (k is bs m).ev st = some r ∧ Valid C m ∧ is.map (·.1) = l ∧ is.length = bs.length ∧ ∀ (j d : Nat) (t : Ty), is[j]? = some (d, t) → ∃ b, bs[j]? = some b ∧ BoxOk C m d t b
  | [], k, h => ⟨[], [], [], h, Valid.nil C, rfl, rfl, by simp⟩
  | d :: l, k, h => by
    simp only [boxes, Q.ev] at h
    rcases hb : st.s d with _ | (⟨t, v⟩ | ⟨u, e', g', ex, l⟩ | _) <;> rw [hb] at h <;> try (simp [Q.ev] at h; done)
    have hl : look C.si d = some (.box t v) := by rw [hi.si]; exact hb
    obtain ⟨hf, c, e, h2, h3, h4⟩ := hi.c.wok.site d _ hl
    have hq1 := toT0_sound hi.si hi.c.wok v t c.toList _ h3 h
    clear h
    obtain ⟨x, m, h, hm, hx⟩ := hq1
    have hq1 := boxes_sound hi l _ h
    clear h
    obtain ⟨is, bs, n, h, hn, h5, h6, h7⟩ := hq1
    refine ⟨_, _, _, h, hm.append hn, by simp [h5], by simp [h6], fun j d' t' hj => ?_⟩
    cases j with
    | zero =>
      simp at hj
      obtain ⟨rfl, rfl⟩ := hj
      exact ⟨_, rfl, v, x, c, e, hl, rfl, h2, hx.keep (keep_mono (fun z hz => by simp [hz]))⟩
    | succ j =>
      obtain ⟨b, h8, v', x', c', e', h9, h10, h11, h12⟩ := h7 j d' t' (by simpa using hj)
      exact ⟨b, by simpa using h8, v', x', c', e', h9, h10, h11, h12.keep (keep_mono (fun z hz => by simp [hz]))⟩

/-- A call, as it is set out: what the callee begins with. -/
structure Issue (E : Env) (o : Oper) (a : Act) (C : Ctx) (f : FuncId) (args : List AV) (bs : List Blk) (dst : Option Nat) (shs : List Sh) (is : List (Nat × Ty)) (marks : List (Nat × Blk)) (vals : List Value) (C0 : Ctx) : Prop where
  run : (execOp a.eval o).run E.P C.w = (callFunc f vals.toArray).run E.P C.w
  dst : dst = o.dst
  shs : shs = E.shp f
  valid : Valid C marks
  nd : (is.map (·.1)).Nodup
  len : is.length = bs.length
  box : ∀ (j d : Nat) (t : Ty), is[j]? = some (d, t) → ∃ b v, bs[j]? = some b ∧ look (C.mk' marks).si d = some (.box t v)
  w : C0.w = C.w
  RO : C0.RO = ROm C marks
  si : C0.si = enter.number 1000 bs
  φ : ∀ (j d : Nat) (t : Ty), is[j]? = some (d, t) → C0.φ (1000 + j) = C.φ d
  args : RAs C0 args vals
  wok : WOk C0
  bx : ∀ b ∈ bs, ∃ t x, b = Blk.box t (.ro t x)
  ty : ∀ (j d : Nat) (t : Ty), is[j]? = some (d, t) → ∃ x, bs[j]? = some (.box t (.ro t x))
theorem call_ok {o : Oper} {c : Call} {g : Operand} {p : Pend} (hT : ∀ t i, E.T t = some i → TIok E.P t i) (hi : Inv O st a C) (ho : o.op = .call c) (hc : c.callee = .value g) (h : (opQ E o).ev st = some p) :
    ∃ f args bs dst shs is marks vals C0, p = .call f args bs dst shs is marks ∧ Issue E o a C f args bs dst shs is marks vals C0 := by
  unfold opQ at h
  rw [ho] at h
  simp only [hc] at h
  have hq_ := chk_ev h
  clear h
  obtain ⟨hs, h⟩ := hq_
  have hq_ := opd_sound hi h
  clear h
  obtain ⟨vg, h, hg⟩ := hq_
  split at h
  · rename_i f first caps
    have hq_ := opds_sound hi h
    clear h
    obtain ⟨vs, h, hvs⟩ := hq_
    rw [zip_snd_eq c hs] at hvs
    have hlen : vs.length = c.args.size := by have := hvs.length; simpa using this
    have hz := (zip_fst c.argTypes.toList vs (by simp [hlen, hs])).2
    have hq1 := argsQ_sound hi _ (c.args.map a.eval).toList _ (by rw [hz]; exact hvs) h
    clear h
    obtain ⟨as, m, h, hm, has⟩ := hq1
    obtain ⟨cs, ⟨us, ts, rfl, hus, hts⟩, eg⟩ := hg.rc (by simp)
    simp only [AV.agg, pack, Bool.false_eq_true, if_false, List.headD_cons] at eg
    unfold callQ at h
    simp only at h
    generalize hL : ((chain first ++ as ++ chain caps).flatMap ids).foldl addId [] = L at h
    have hq_ := chk_ev h
    clear h
    obtain ⟨hcl, h⟩ := hq_
    have hq1 := boxes_sound hi L _ h
    clear h
    obtain ⟨is, bs, n, h, hn, hisL, hlb, hbox⟩ := hq1
    have hq_ := chk_ev h
    clear h
    obtain ⟨hdis, h⟩ := hq_
    simp only [Q.ev, Option.some.injEq] at h
    subst h
    have hmn := hm.append hn
    have hndL : L.Nodup := by rw [← hL]; exact addIds_nodup _ _ (by simp)
    have hnd : (is.map (·.1)).Nodup := by rw [hisL]; exact hndL
    have alive : ∀ d, d ∈ L → look (C.mk' (m ++ n)).si d = look C.si d := by
      intro d hd
      show look ((m ++ n) ++ C.si) d = _
      rw [look_append]
      cases hk : look (m ++ n) d with
      | none => rfl
      | some b =>
        have h1 := List.all_eq_true.1 hdis _ (look_mem hk)
        simp only [Bool.not_eq_true'] at h1
        rw [List.any_eq_false] at h1
        exact absurd (Nat.beq_refl d) (h1 d hd)
    have inL : ∀ (j d : Nat) (t : Ty), is[j]? = some (d, t) → L[j]? = some d := by
      intro j d t hj
      rw [← hisL, List.getElem?_map, hj]
      rfl
    have isOf : ∀ (j d : Nat), L[j]? = some d → ∃ t, is[j]? = some (d, t) := by
      intro j d hj
      rw [← hisL, List.getElem?_map, Option.map_eq_some_iff] at hj
      obtain ⟨⟨d', t⟩, h1, h2⟩ := hj
      simp only at h2
      subst h2
      exact ⟨t, h1⟩
    let C0 : Ctx := ⟨C.w, ROm C (m ++ n), enter.number 1000 bs, fun x => C.φ (L.getD (x - 1000) 0), fun _ => undef⟩
    have hφ : ∀ (j d : Nat), L[j]? = some d → C0.φ (1000 + j) = C.φ d := by
      intro j d hj
      show C.φ (L.getD (1000 + j - 1000) 0) = _
      rw [show 1000 + j - 1000 = j by omega]
      simp [hj]
    have hlk : ∀ j, look C0.si (1000 + j) = bs[j]? := by
      intro j
      show look (enter.number 1000 bs) (1000 + j) = _
      rw [look_number, if_pos (by omega), Nat.add_sub_cancel_left]
    have hlt : ∀ d b, look C0.si d = some b → ∃ j d' t, d = 1000 + j ∧ is[j]? = some (d', t) ∧ bs[j]? = some b ∧ L[j]? = some d' ∧ BoxOk C n d' t b := by
      intro d b hd
      have hd' : look (enter.number 1000 bs) d = some b := hd
      rw [look_number] at hd'
      split at hd'
      · have hj := (List.getElem?_eq_some_iff.1 hd').1
        have hj2 : d - 1000 < is.length := by omega
        obtain ⟨b', h1, h2⟩ := hbox (d - 1000) is[d - 1000].1 is[d - 1000].2 (by simp [hj2])
        rw [hd'] at h1
        injection h1 with h1
        subst h1
        exact ⟨d - 1000, is[d - 1000].1, is[d - 1000].2, by omega, List.getElem?_eq_getElem hj2, hd', inL (d - 1000) is[d - 1000].1 is[d - 1000].2 (List.getElem?_eq_getElem hj2), h2⟩
      · cases hd'
    have hW := hi.c.wok.mark hmn
    refine ⟨f, _, bs, o.dst, E.shp f, is, m ++ n, us ++ (c.args.map a.eval).toList ++ ts, C0, rfl, ⟨?_, rfl, rfl, hmn, hnd, hlb, ?_, rfl, rfl, rfl, ?_, ?_, ?_, ?_, ?_⟩⟩
    · simp only [execOp, ho, resolve, hc, Sem.run_bind, eg, Deferred.ofValue, Sem.run_pure, Result.andThen_ok, invoke]
      congr 2
      apply Array.ext'
      simp
    · intro j d t hj
      obtain ⟨b, h1, v, x, c', e, h2, h3, h4, h5⟩ := hbox j d t hj
      exact ⟨b, v, h1, by rw [alive d (List.mem_of_getElem? (inL j d t hj))]; exact h2⟩
    · intro j d t hj
      exact hφ j d (inL j d t hj)
    · refine rens_ok (C := C.mk' (m ++ n)) (C0 := C0) (l := L) rfl (fun b o h => h) (fun d hd => ?_) _ _ hcl (fun d hd => by rw [← hL, addIds_mem]; exact .inr hd) ?_
      · obtain ⟨j, h1, h2⟩ := place_go d L 1000 hd
        obtain ⟨t, h3⟩ := isOf j d h1
        obtain ⟨b, h4, v, x, c', e, h5, h6, h7, h8⟩ := hbox j d t h3
        refine ⟨t, v, .ro t x, by rw [alive d hd]; exact h5, ?_, ?_⟩
        · show look C0.si (place.go d L 1000) = _
          rw [h2, hlk, h4, h6]
        · show C0.φ (place.go d L 1000) = _
          rw [h2, hφ j d h1]
          rfl
      · have e1 := (Ext.mark hmn)
        exact ((RAs.ext e1 (chain_ras hus)).append (has.ext (Ext.mark_mono hm hn))).append (RAs.ext e1 (chain_ras hts))
    · refine ⟨fun d b hd => ?_, fun d d' b b' k hd hd' hk hk' => ?_, fun b o h => hW.ro b o h⟩
      · obtain ⟨j, d', t, rfl, h1, h2, h3, v, x, c', e, h4, rfl, h6, h7⟩ := hlt d b hd
        have hs := hW.site d' (.box t v) (by rw [alive d' (List.mem_of_getElem? h3)]; exact h4)
        obtain ⟨_, c2, e2, h8, _, h9⟩ := hs
        refine ⟨by simp [fits], c', e, by rw [hφ j d' h3]; exact h6, h7.keep (keep_mono (fun z hz => by simp [hz])), fun o => by rw [hφ j d' h3]; exact h9 o⟩
      · obtain ⟨j, d1, t, rfl, h1, h2, h3, v, x, c', e, h4, rfl, h6, h7⟩ := hlt d b hd
        obtain ⟨j', d1', t', rfl, h1', h2', h3', v', x', c'', e', h4', rfl, h6', h7'⟩ := hlt d' b' hd'
        simp only [blkOf, Option.some.injEq] at hk hk'
        rw [hφ j d1 h3] at hk
        rw [hφ j' d1' h3'] at hk'
        have := hi.c.wok.sep d1 d1' _ _ k h4 h4' (by simp [blkOf, hk]) (by simp [blkOf, hk'])
        subst this
        have h8 := List.getElem?_eq_some_iff.1 h3
        have h9 := List.getElem?_eq_some_iff.1 h3'
        rcases Nat.lt_trichotomy j j' with hjj | hjj | hjj
        · exact absurd (h8.2.trans h9.2.symm) (List.pairwise_iff_getElem.1 hndL j j' h8.1 h9.1 hjj)
        · rw [hjj]
        · exact absurd (h9.2.trans h8.2.symm) (List.pairwise_iff_getElem.1 hndL j' j h9.1 h8.1 hjj)
    · intro b hb
      obtain ⟨j, hj⟩ := List.mem_iff_getElem?.1 hb
      have hj1 := (List.getElem?_eq_some_iff.1 hj).1
      have hj2 : j < is.length := by omega
      obtain ⟨b', h1, v, x, c', e, h2, h3, h4, h5⟩ := hbox j is[j].1 is[j].2 (by simp [hj2])
      rw [hj] at h1
      injection h1 with h1
      subst h1
      exact ⟨_, x, h3⟩
    · intro j d t hj
      obtain ⟨b, h1, v, x, c', e, h2, h3, h4, h5⟩ := hbox j d t hj
      exact ⟨x, by rw [h1, h3]⟩
  · simp [Q.ev] at h
end Go.Proofs.Cdm
