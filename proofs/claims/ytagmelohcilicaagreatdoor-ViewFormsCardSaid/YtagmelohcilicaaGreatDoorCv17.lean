/-
Operations, tenth part: conversions, comparisons, the greatest and the least; and all of them together.
-/
import Derived.Test.YtagmelohcilicaaGreatDoorCv16
namespace Go.Proofs.Cdm
open Go Go.RowKit
variable {E : Env} {O : Old} {st : St} {a : Act} {C : Ctx}

theorem run_conv_ss {P : Program} {s d : TypeId} {sd : TypeDesc} (hs : P.underlying s = some sd) (hd : P.underlying d = some .string) (x : ByteArray) (w : World) : (convert s d (.string x)).run P w = .ok (.string x) w := by
  simp only [convert, Sem.run_bind, run_underlying hs, run_underlying hd, Result.andThen_ok]
  cases sd <;> rfl
theorem ints_flat (l : List Int) : l.flatMap (enc (.int .u8)) = l.map (DV.int .u8) := by
  induction l with
  | nil => rfl
  | cons b z ih => rw [List.flatMap_cons, List.map_cons, ← ih]; rfl
theorem convert_ok {o : Oper} {s t : TypeId} {x : Operand} {p : Pend} (hT : ∀ t i, E.T t = some i → TIok E.P t i) (hi : Inv O st a C) (ho : o.op = .convert s t x) (h : (opQ E o).ev st = some p) : OpOk E O o a C p := by
  unfold opQ at h
  rw [ho] at h
  have hq_ := opd_sound hi h
  clear h
  obtain ⟨v, h, hv⟩ := hq_
  unfold convQ at h
  have hq_ := ty_ev h
  clear h
  obtain ⟨si, hs, h⟩ := hq_
  have hq_ := ty_ev h
  clear h
  obtain ⟨ti, ht, h⟩ := hq_
  obtain ⟨sd, hsd, hsu⟩ := (hT _ _ hs).und
  obtain ⟨td, htd, htu⟩ := (hT _ _ ht).und
  have to1 : ∀ {w' : World} {val : Value}, (convert s t (a.eval x)).run E.P C.w = .ok val w' → (execOp a.eval o).run E.P C.w = .ok (.value val) w' := by
    intro w' val hr
    simp only [execOp, ho, Sem.run_bind, hr, Result.andThen_ok, Sem.run_pure]
  split at h
  · rename_i j j' e1 e2
    rw [e2] at htu
    split at h
    · rename_i k n
      have e := hv.int
      subst htu
      exact put1_same hi h _ (to1 (by rw [e]; exact convert_int hsd htd _ _)) (.ofInt _ _)
    · simp [Q.ev] at h
  · rename_i e1 e2
    rw [e2] at htu
    split at h
    · rename_i z
      obtain ⟨e, hl⟩ := hv.str
      subst htu
      exact put1_same hi h _ (to1 (by rw [e]; exact run_conv_ss hsd htd _ _)) (.ofStr _ hl)
    · simp [Q.ev] at h
  · rename_i e1 e2
    rw [e1] at hsu
    rw [e2] at htu
    obtain ⟨rfl, _⟩ := htu
    have hq_ := ty_ev h
    clear h
    obtain ⟨ei, he, h⟩ := hq_
    have hq_ := chk_ev h
    clear h
    obtain ⟨hety, h⟩ := hq_
    obtain ⟨ed, hed, heu⟩ := (hT _ _ he).und
    rw [hety] at heu
    split at h
    · rename_i z
      obtain ⟨e, hl⟩ := hv.str
      have hsz : (⟨z.toArray⟩ : ByteArray).size = z.length := rfl
      subst hsu heu
      have hr := run_bytes_of_string (P := E.P) C.w s t ti.e ⟨z.toArray⟩ hsd htd hed
      rw [hsz] at hr
      generalize hG : grownCap C.w z.length 0 ti.e = G at hr
      have hG0 : z.length ≤ G := by rw [← hG]; exact grownCap_ge _ _ _ _
      generalize hF : ((bytesRow ⟨z.toArray⟩ G).size, (bytesRow ⟨z.toArray⟩ G).size + 1) = F at hr
      have hb : Below C.w.heap.size C.w (C.w.drew.alloc (.cells (bytesRow ⟨z.toArray⟩ G) ti.e F)) :=
        ⟨rfl, rfl, rfl, by simp, fun k hk => heap_alloc_old C.w.drew _ k hk⟩
      obtain ⟨he, hc'⟩ := grow0 hi.c hb (fun b o => C.RO b o ∨ (b = C.w.heap.size ∧ o < z.length)) (fun _ _ h => .inl h) (fun b o h => by
        rcases h with h | ⟨h, _⟩
        · exact .inl h
        · exact .inr ⟨by omega, by rw [h]; simp⟩)
      refine put1_ok h _ _ (to1 (by rw [e]; exact hr)) he hc' rfl (.inr ⟨[_], ⟨fun _ _ => trivial, ?_⟩, rfl⟩)
      have e3 : enc (.slice (.int .u8)) (z.map fun b => (b.toNat : Int)) = [.sl z.length (z.map fun b => DV.int .u8 b.toNat)] := by
        simp only [enc, List.length_map]
        congr 2
        rw [List.flatMap_map]
        clear h he hc' hb e hl hsz hr hG hG0 hF hv
        induction z with
        | nil => rfl
        | cons b z ih => rw [List.flatMap_cons, List.map_cons, ih]; rfl
      rw [e3]
      refine Reps.one ?_
      rcases Nat.eq_zero_or_pos z.length with h0 | h0
      · have : z = [] := List.eq_nil_of_length_eq_zero h0
        subst this
        exact .sl0 _ _ rfl
      · refine .sl z.length _ _ _ _ (fun j => Value.int .u8 ((z.getD j 0).toNat : Int)) h0 hl hG0 (fun j hj => ?_) (fun j hj => .inr ⟨rfl, by simpa using hj⟩) (fun j hj => ?_)
        · rw [List.length_map] at hj
          show (C.w.drew.alloc (.cells (bytesRow ⟨z.toArray⟩ G) ti.e F)).cell? _ = _
          have hh : (C.w.drew.alloc (.cells (bytesRow ⟨z.toArray⟩ G) ti.e F)).heap[C.w.heap.size]? = some (.cells (bytesRow ⟨z.toArray⟩ G) ti.e F) := heap_alloc_new C.w.drew _
          rw [cell_of_row _ _ _ _ _ _ hh, Nat.zero_add]
          simp only [bytesRow]
          rw [Array.getElem?_append_left (by simpa using hj)]
          simp [hj]
        · have hj' : j < z.length := by simpa using hj
          simp only [List.getElem_map]
          have : z.getD j 0 = z[j] := by simp [hj']
          rw [this]
          exact .int _ _
    · simp [Q.ev] at h
  · rename_i e1 e2
    rw [e1] at hsu
    rw [e2] at htu
    obtain ⟨rfl, _⟩ := hsu
    have hq_ := ty_ev h
    clear h
    obtain ⟨ei, he, h⟩ := hq_
    have hq_ := chk_ev h
    clear h
    obtain ⟨hety, h⟩ := hq_
    obtain ⟨ed, hed, heu⟩ := (hT _ _ he).und
    rw [hety] at heu
    have hq_ := rows_sound hi hv h
    clear h
    obtain ⟨l, h, hsv⟩ := hq_
    subst htu heu
    obtain ⟨_, hlim, us, hr, ⟨rfl, A, c, hA, ev⟩ | ⟨b, o', c, ev, hc, hcell⟩⟩ := hsv
    · refine put1_same hi h (.string ⟨#[]⟩) (to1 ?_) (.ofStr _ (by simp))
      rw [ev]
      cases A with
      | none => exact run_convert_bytes_nil C.w s si.e hsd hed 0 c t htd
      | some ad => exact run_convert_bytes_back C.w s t si.e ad c [] hsd hed htd (fun j hj => by simp at hj)
    · have hint : ∀ j, j < l.length → us[j]? = some (.int .u8 (l.getD j 0)) := by
        intro j hj
        have e3 : l.flatMap (enc (.int .u8)) = l.map (DV.int .u8) := by
          exact ints_flat l
        rw [e3] at hr
        obtain ⟨v', h1, h2⟩ := hr.get j (by simpa using hj)
        rw [h1]
        simp only [List.getElem_map] at h2
        cases h2
        congr 2
        simp [hj]
      refine put1_same hi h _ (to1 (by rw [ev]; exact run_convert_bytes_arg C.w s si.e hsd hed b o' l.length c l rfl (fun j hj => hcell j _ (hint j hj)) t htd)) ?_
      exact .ofStr _ (by simpa [LIM] using hlim)
  · simp [Q.ev] at h

/-! ### Comparisons -/
theorem RA.ifc {m : DV} {val : Value} (h : RA C (.ro .ifc m) val) : (m = .nilI ∧ val = .nilIface) ∨ (m.isNil = false ∧ ∃ t v, val = .iface t v) := by
  have hw : m.isI = true := by
    obtain ⟨cs, h1, _⟩ := h.rc (by simp)
    exact h1.1
  have := h.one rfl rfl
  cases this with
  | nilI => exact .inl ⟨rfl, rfl⟩
  | ifc t d v => exact .inr ⟨rfl, t, v, rfl⟩
  | ifcA t ds vs => exact .inr ⟨rfl, t, _, rfl⟩
  | _ => simp [DV.isI] at hw
theorem run_eq_nil {P : Program} {t : TypeId} {ms : _} (h : P.underlying t = some (.interface ms)) (w : World) (ty : TypeId) (v : Value) :
    (Op.equal t (.iface ty v) .nilIface).run P w = .ok false w ∧ (Op.equal t .nilIface (.iface ty v)).run P w = .ok false w ∧ (Op.equal t .nilIface .nilIface).run P w = .ok true w := by
  refine ⟨?_, ?_, ?_⟩ <;> (unfold Op.equal Op.maxDepth Op.equalIn; simp only [Sem.run_bind, run_underlying h, Result.andThen_ok, Sem.run_pure])
/-- What a comparison comes to, where the machine's own is told. -/
theorem eqBin_ok {op : BinOp} {b : Bool} {α : Type} {k : AV → Q α} {r : α} {t : TypeId} {x y : Operand} {P : Program} {w : World} {u v : Value} (h : (eqBin op b k).ev st = some r)
    (h1 : (do eqGuard .eql t x y u v; binOp .eql t u v : Sem Value).run P w = .ok (.bool b) w) (h2 : (do eqGuard .neq t x y u v; binOp .neq t u v : Sem Value).run P w = .ok (.bool !b) w) :
    ∃ v' val, (k v').ev st = some r ∧ RA C v' val ∧ (do eqGuard op t x y u v; binOp op t u v : Sem Value).run P w = .ok val w := by
  cases op <;> simp only [eqBin] at h
  case eql => exact ⟨_, _, h, .ofBool _, h1⟩
  case neq => exact ⟨_, _, h, .ofBool _, h2⟩
  all_goals simp [Q.ev] at h
theorem ifcNil_ok {op : BinOp} {b : Bool} {α : Type} {k : AV → Q α} {r : α} {t : TypeId} {x y : Operand} {P : Program} {w : World} {u v : Value} {ms : _} (h : (eqBin op b k).ev st = some r) (ht : P.underlying t = some (.interface ms))
    (hc : isConst x = true ∨ isConst y = true) (huv : (b = false ∧ ∃ ty z, (u = .iface ty z ∧ v = .nilIface) ∨ (u = .nilIface ∧ v = .iface ty z)) ∨ (b = true ∧ u = .nilIface ∧ v = .nilIface)) :
    ∃ v' val, (k v').ev st = some r ∧ RA C v' val ∧ (do eqGuard op t x y u v; binOp op t u v : Sem Value).run P w = .ok val w := by
  rcases huv with ⟨rfl, ty, z, ⟨rfl, rfl⟩ | ⟨rfl, rfl⟩⟩ | ⟨rfl, rfl, rfl⟩
  · refine eqBin_ok h ?_ ?_ <;> simp [eqGuard, binOp, (run_eq_nil ht w ty z).1]
  · refine eqBin_ok h ?_ ?_ <;> simp [eqGuard, binOp, (run_eq_nil ht w ty z).2.1]
  · refine eqBin_ok h ?_ ?_ <;> (cases x <;> cases y <;> first | (exfalso; simp [isConst] at hc; done) | simp [eqGuard, binOp, (run_eq_nil ht w 0 .nilIface).2.2])
theorem binOp_ok' {α : Type} {op : BinOp} {t : TypeId} {x y : Operand} {k : AV → Q α} {r : α} (hT : ∀ t i, E.T t = some i → TIok E.P t i) (hi : Inv O st a C) (h : (binQ E op t x y k).ev st = some r) :
    ∃ v val, (k v).ev st = some r ∧ RA C v val ∧ (do eqGuard op t x y (a.eval x) (a.eval y); binOp op t (a.eval x) (a.eval y) : Sem Value).run E.P C.w = .ok val C.w := by
  unfold binQ at h
  have hq_ := opd_sound hi h
  clear h
  obtain ⟨vx, h, hx⟩ := hq_
  have hq_ := opd_sound hi h
  clear h
  obtain ⟨vy, h, hy⟩ := hq_
  split at h
  · rename_i j m j' n
    rw [hx.int, hy.int]
    split at h
    · exact shiftBin_ok h
    · exact shiftBin_ok h
    · rename_i h1 h2
      have hq_ := chk_ev h
      clear h
      obtain ⟨rfl, h⟩ := hq_
      exact intBin_ok h h1 h2
  · rw [hx.str.1, hy.str.1]
    exact strBin_ok h
  · rename_i m n
    rw [hx.bool, hy.bool]
    have hq_ := ty_ev h
    clear h
    obtain ⟨i, ht, h⟩ := hq_
    have hq_ := chk_ev h
    clear h
    obtain ⟨hty, h⟩ := hq_
    obtain ⟨d, hd, hu⟩ := (hT _ _ ht).und
    rw [hty] at hu
    subst hu
    have he : (Op.equal t (.bool m) (.bool n)).run E.P C.w = .ok (m == n) C.w := by
      unfold Op.equal Op.maxDepth Op.equalIn
      simp only [Sem.run_bind, run_underlying hd, Result.andThen_ok, Sem.run_pure]
    refine eqBin_ok h ?_ ?_ <;> simp [eqGuard, binOp, he]
  · rename_i m n
    have hq_ := ty_ev h
    clear h
    obtain ⟨i, ht, h⟩ := hq_
    have hq_ := chk_ev h
    clear h
    obtain ⟨hty, h⟩ := hq_
    obtain ⟨d, hd, hu⟩ := (hT _ _ ht).und
    rw [hty] at hu
    obtain ⟨ms, rfl⟩ := hu
    split at h
    · refine ifcNil_ok h hd (.inr rfl) ?_
      have ey : a.eval (.const .nilIface) = .nilIface := rfl
      rw [ey]
      rcases hx.ifc with ⟨rfl, e⟩ | ⟨h1, ty, z, e⟩
      · rw [e]; exact .inr ⟨rfl, rfl, rfl⟩
      · rw [e, h1]; exact .inl ⟨rfl, ty, z, .inl ⟨rfl, rfl⟩⟩
    · split at h
      · refine ifcNil_ok h hd (.inl rfl) ?_
        have ey : a.eval (.const .nilIface) = .nilIface := rfl
        rw [ey]
        rcases hy.ifc with ⟨rfl, e⟩ | ⟨h1, ty, z, e⟩
        · rw [e]; exact .inr ⟨rfl, rfl, rfl⟩
        · rw [e, h1]; exact .inl ⟨rfl, ty, z, .inr ⟨rfl, rfl⟩⟩
      · simp [Q.ev] at h
  · rename_i t' d' n
    have hq_ := ty_ev h
    clear h
    obtain ⟨i, ht, h⟩ := hq_
    have hq_ := chk_ev h
    clear h
    obtain ⟨hty, h⟩ := hq_
    obtain ⟨d, hd, hu⟩ := (hT _ _ ht).und
    rw [hty] at hu
    obtain ⟨ms, rfl⟩ := hu
    split at h
    · refine ifcNil_ok h hd (.inr rfl) (.inl ⟨rfl, ?_⟩)
      obtain ⟨cs, ⟨ad, rfl, _⟩, e⟩ := hx.rc (by simp)
      exact ⟨t', _, .inl ⟨e, rfl⟩⟩
    · simp [Q.ev] at h
  · have hq_ := ty_ev h
    clear h
    obtain ⟨i, ht, h⟩ := hq_
    have hq_ := chk_ev h
    clear h
    obtain ⟨hcmp, h⟩ := hq_
    obtain ⟨hag, heq⟩ := (hT _ _ ht).cmp hcmp
    have ha := toT_agg h
    obtain ⟨us, hus, e⟩ := hx.rc (by rintro rfl; cases i.ty <;> simp [toT, toT0, Q.ev] at h)
    have hq_ := toT_sound hi.si hi.c.wok vx i.ty us _ hus h
    clear h
    obtain ⟨m, q, h, hq, hm⟩ := hq_
    have hb := toT_agg h
    obtain ⟨us', hus', e'⟩ := hy.rc (by rintro rfl; cases i.ty <;> simp [toT, toT0, Q.ev] at h)
    have hq_ := toT_sound hi.si hi.c.wok vy i.ty us' _ hus' h
    clear h
    obtain ⟨n, q', h, hq', hn⟩ := hq_
    rw [e, e', ha, hb, hag]
    have hk := heq C.w (ROm C (q ++ q')) m n us us' (hm.keep (keep_mono (fun z hz => by simp [hz]))) (hn.keep (keep_mono (fun z hz => by simp [hz]))) x y
    exact eqBin_ok h hk.1 hk.2
theorem binOp_ok {o : Oper} {op : BinOp} {t yt : TypeId} {x y : Operand} {p : Pend} (hT : ∀ t i, E.T t = some i → TIok E.P t i) (hi : Inv O st a C) (ho : o.op = .binOp op t x y yt) (h : (opQ E o).ev st = some p) : OpOk E O o a C p := by
  unfold opQ at h
  rw [ho] at h
  obtain ⟨v, val, h, hv, hr⟩ := binOp_ok' hT hi h
  exact put1_same hi h val (by simp only [execOp, ho, Sem.run_bind, hr, Result.andThen_ok, Sem.run_pure] at hr ⊢) hv

/-! ### The greatest and the least -/
theorem minmaxFrom_ev {α : Type} {mx : Bool} {j : IntKind} {n : Int} {v : AV} {vs : List AV} {k : AV → Q α} {r : α} (h : (minmaxFrom mx j n (v :: vs) k).ev st = some r) :
    ∃ b : Int, v = .ro (.int j) b ∧ (minmaxFrom mx j (if mx then max n b else min n b) vs k).ev st = some r := by
  cases v with
  | ro t x =>
    cases t with
    | int j' =>
      have h' := chk_ev h
      obtain ⟨rfl, h'⟩ := h'
      exact ⟨x, rfl, h'⟩
    | _ => simp [minmaxFrom, Q.ev] at h
  | _ => simp [minmaxFrom, Q.ev] at h
theorem minmaxFrom_sound {α : Type} {mx : Bool} {j : IntKind} {r : α} {P : Program} {w : World} : ∀ (vs : List AV) (xs : List Value) (n : Int) (k : AV → Q α), RAs C vs xs → (minmaxFrom mx j n vs k).ev st = some r →
    ∃ m : Int, (k (.ro (.int j) m)).ev st = some r ∧ (xs.foldlM (if mx then Builtin.max2 else Builtin.min2) (.int j n) : Sem Value).run P w = .ok (.int j m) w
  | [], [], n, k, _, h => ⟨n, h, by simp⟩
  | v :: vs, x :: xs, n, k, hr, h => by
    have hq_ := minmaxFrom_ev h
    clear h
    obtain ⟨b, rfl, h⟩ := hq_
    obtain ⟨m, h1, h2⟩ := minmaxFrom_sound vs xs _ k hr.2 h
    refine ⟨m, h1, ?_⟩
    have hx := hr.1.int
    subst hx
    simp only [List.foldlM_cons, Sem.run_bind]
    cases mx with
    | true =>
      have e : (if b > n then b else n) = max n b := by omega
      simp only [if_true, Builtin.max2, Sem.run_pure, Result.andThen_ok, e] at h2 ⊢
      exact h2
    | false =>
      have e : (if b < n then b else n) = min n b := by omega
      simp only [Bool.false_eq_true, if_false, Builtin.min2, Sem.run_pure, Result.andThen_ok, e] at h2 ⊢
      exact h2
  | [], _ :: _, _, _, h, _ => h.elim
  | _ :: _, [], _, _, h, _ => h.elim
theorem minmax_sound {α : Type} {mx : Bool} {r : α} {P : Program} {vs : List AV} {xs : List Value} {k : AV → Q α} (hr : RAs C vs xs) (h : (minmax mx vs k).ev st = some r) :
    ∃ (j : IntKind) (m : Int) (x : Value) (rest : List Value), (k (.ro (.int j) m)).ev st = some r ∧ xs = x :: rest ∧ (rest.foldlM (if mx then Builtin.max2 else Builtin.min2) x : Sem Value).run P C.w = .ok (.int j m) C.w := by
  unfold minmax at h
  split at h
  · rename_i j n r'
    cases xs with
    | nil => exact hr.elim
    | cons x xs =>
      obtain ⟨m, h1, h2⟩ := minmaxFrom_sound (P := P) (w := C.w) _ _ _ _ hr.2 h
      have hx := hr.1.int
      subst hx
      exact ⟨j, m, _, xs, h1, rfl, h2⟩
  · simp [Q.ev] at h
theorem zip_snd_eq (c : Call) (h : c.argTypes.size = c.args.size) : (c.argTypes.toList.zip c.args.toList).map (fun x => a.eval x.2) = (c.args.map a.eval).toList := by
  have := (zip_fst c.argTypes.toList c.args.toList (by simpa using h)).2
  rw [Array.toList_map, ← this, List.map_map]
  rw [this]
  rfl
theorem max_ok {o : Oper} {c : Call} {p : Pend} (hi : Inv O st a C) (ho : o.op = .call c) (hc : c.callee = .builtin .max ∨ c.callee = .builtin .min) (h : (opQ E o).ev st = some p) : OpOk E O o a C p := by
  unfold opQ at h
  rw [ho] at h
  rcases hc with hc | hc
  · simp only [hc] at h
    have hq_ := chk_ev h
    clear h
    obtain ⟨hs, h⟩ := hq_
    have hq_ := opds_sound hi h
    clear h
    obtain ⟨vs, h, hvs⟩ := hq_
    rw [zip_snd_eq c hs] at hvs
    have hq_ := minmax_sound (P := E.P) hvs h
    clear h
    obtain ⟨j, m, x, rest, h, hx, hr⟩ := hq_
    refine put1_same hi h _ ?_ (.ofInt _ _)
    simp only [execOp, ho, resolve, hc, Sem.run_bind, Sem.run_pure, Result.andThen_ok, invoke, builtin, Builtin.max_]
    rw [hx]; simp only [if_true] at hr; simp only [hr, Result.andThen_ok]
  · simp only [hc] at h
    have hq_ := chk_ev h
    clear h
    obtain ⟨hs, h⟩ := hq_
    have hq_ := opds_sound hi h
    clear h
    obtain ⟨vs, h, hvs⟩ := hq_
    rw [zip_snd_eq c hs] at hvs
    have hq_ := minmax_sound (P := E.P) hvs h
    clear h
    obtain ⟨j, m, x, rest, h, hx, hr⟩ := hq_
    refine put1_same hi h _ ?_ (.ofInt _ _)
    simp only [execOp, ho, resolve, hc, Sem.run_bind, Sem.run_pure, Result.andThen_ok, invoke, builtin, Builtin.min_]
    rw [hx]; simp only [Bool.false_eq_true, if_false] at hr; simp only [hr, Result.andThen_ok]
end Go.Proofs.Cdm
