/-
Operations, eighth part: append.
-/
import Derived.Test.YtagmelohcilicaaGreatDoorCv14
namespace Go.Proofs.Cdm
open Go Go.RowKit
variable {E : Env} {O : Old} {st : St} {a : Act} {C : Ctx}

theorem addr_add (b o j : Nat) : (⟨b, o, none⟩ : Addr).add j = ⟨b, o + j, none⟩ := by unfold Addr.add; split <;> simp_all
theorem run_append_gen {P : Program} {w : World} {t u ty e : TypeId} {ud : TypeDesc} {i : TypeInfo} {z : Value} (ht : P.underlying t = some (.slice e)) (hu : P.underlying u = some ud) (hud : ∀ k, ud ≠ .int k) (hi : P.info? e = some i) (hz : i.zero = some z)
    (hzs : z.cells.size = i.size) (hsz : 0 < i.size) (hby : 0 < i.bytes) {x : Value} {m : Nat} {news : List Value} (hl : news.length = m * i.size) (hlen : Builtin.lenOf x = pure m) (hf : (Builtin.firstCells i.size m x).run P w = .ok news.toArray w)
    (hf' : (Builtin.firstCells i.size m x).run P w.drew = .ok news.toArray w.drew) (h1 : ∀ u ∈ news, u.oneCell' = true) {v : Value} {n : Nat} {xs : List Value} (hown : OwnV w e i.size v n xs) (hb : (n + m) * i.bytes ≤ 140737488355328) :
    ∃ v' w', (Builtin.append_ #[t, u] ty #[v, x]).run P w = .ok v' w' ∧ OwnV w' e i.size v' (n + m) (xs ++ news) ∧ w.grownBy w' (blkV v) ∧ (blkV v' = blkV v ∨ ∀ k, blkV v' = some k → w.heap.size ≤ k) ∧
      ∀ k o c, blkV v = some k → o < n * i.size → w.cell? ⟨k, o, none⟩ = some c → w'.cell? ⟨k, o, none⟩ = some c := by
  have hnm : n + m ≤ 140737488355328 := Nat.le_trans (Nat.le_mul_of_pos_right _ hby) hb
  have hxl := hown.length
  have hlen' : (xs ++ news).length = (n + m) * i.size := by rw [List.length_append, hxl, hl, Nat.add_mul]
  have hint : (match ud with | .int _ => true | _ => false) = false := by cases ud <;> first | rfl | exact absurd rfl (hud _)
  have grown : ∀ (old : Nat), old < n + m → ∀ (row : Option Nat),
      OwnV (w.drew.alloc (.cells (xs.toArray ++ news.toArray ++ Builtin.zeroCells z.cells (grownCap w (n + m) old e - (n + m))) e)) e i.size
        (.slice (some ⟨w.heap.size, 0, none⟩) (n + m) (grownCap w (n + m) old e)) (n + m) (xs ++ news) ∧
      w.grownBy (w.drew.alloc (.cells (xs.toArray ++ news.toArray ++ Builtin.zeroCells z.cells (grownCap w (n + m) old e - (n + m))) e)) row ∧
      (∀ k, blkV (.slice (some ⟨w.heap.size, 0, none⟩) (n + m) (grownCap w (n + m) old e)) = some k → w.heap.size ≤ k) ∧
      ∀ k o c, k < w.heap.size → w.cell? ⟨k, o, none⟩ = some c → (w.drew.alloc (.cells (xs.toArray ++ news.toArray ++ Builtin.zeroCells z.cells (grownCap w (n + m) old e - (n + m))) e)).cell? ⟨k, o, none⟩ = some c := by
    intro old ho row
    have hge := grownCap_ge w (n + m) old e
    have hcm : grownCap w (n + m) old e ≤ maxLen := grownCap_le_maxLen w (n + m) old e (by simp only [maxLen]; omega)
    refine ⟨.inr ⟨w.heap.size, _, _, rfl, by omega, heap_alloc_new w.drew _, hge, hcm, ?_, ?_⟩, ⟨rfl, rfl, rfl, by simp, fun k hk _ => heap_alloc_old w.drew _ k hk⟩, ?_, ?_⟩
    · simp only [Array.size_append, List.size_toArray, size_zeroCells, hzs, hxl, hl, ← Nat.add_mul]
      congr 1
      omega
    · simp only [Array.toList_append, List.append_assoc]
      rw [← List.append_assoc, ← hlen']
      exact List.take_left
    · intro k hk
      simp only [blkV] at hk
      split at hk
      · simp at hk; omega
      · simp at hk
    · intro k o c hk hc
      rw [cell_of_heap (heap_alloc_old w.drew _ k hk)]
      exact hc
  rcases hown with ⟨rfl, rfl, A, hA, rfl⟩ | ⟨g, cap, cur, rfl, hc0, hg, hnc, hcm, hcs, htake⟩
  · simp only [Nat.zero_add, List.nil_append, Array.empty_append] at *
    by_cases hm : m = 0
    · subst hm
      have hn : news = [] := List.eq_nil_of_length_eq_zero (by simpa using hl)
      subst hn
      refine ⟨.slice A 0 0, w, ?_, .inl ⟨rfl, rfl, A, hA, rfl⟩, ⟨rfl, rfl, rfl, Nat.le_refl _, fun _ _ _ => rfl⟩, .inl rfl, fun k o c hk => by cases A <;> simp [blkV] at hk⟩
      cases A <;> simp [Builtin.append_, run_underlying ht, run_underlying hu, sizeOf, typeInfo, hi, hint, hlen, hf, storeCells]
    · have hn0 : ¬ m ≤ 0 := by omega
      have h63' : ¬ (9223372036854775807 < (m : Int)) := by omega
      have h48' : ¬ (281474976710656 < Builtin.nextslicecap m 0 * i.bytes) := by
        have := growslice_fits (need := m) (old := 0) (bytes := i.bytes) (by omega) hb
        omega
      obtain ⟨h2, h3, h4, h5⟩ := grown 0 (by omega) (blkV (.slice A 0 0))
      refine ⟨_, _, ?_, h2, h3, .inr h4, fun k o c hk => by cases A <;> simp [blkV] at hk⟩
      have hfo : (Builtin.firstCells i.size 0 (.slice A 0 0)).run P w.drew = .ok #[] w.drew := by
        cases A <;> simp [Builtin.firstCells, loadCells, loadCellsFrom]
      simp [Builtin.append_, run_underlying ht, run_underlying hu, sizeOf, typeInfo, zeroValue, hi, hz, hint, hlen, hm, h63', h48', Question.forced, hf', hfo, newRow, grownCap]
  · have hblk : blkV (.slice (some ⟨g, 0, none⟩) n cap) = some g := by simp [blkV, hc0]
    by_cases hroom : n + m ≤ cap
    · have hfit : n * i.size + news.length ≤ cur.size := by rw [hl, hcs, ← Nat.add_mul]; exact Nat.mul_le_mul_right _ hroom
      have hst := run_storeCells_at P g (n * i.size) e news 0 cur w hg (by simpa using hfit) h1
      simp only [Nat.add_zero] at hst
      refine ⟨.slice (some ⟨g, 0, none⟩) (n + m) cap, w.setRow g (cur.toList.take (n * i.size) ++ news ++ cur.toList.drop (n * i.size + news.length)).toArray, ?_, .inr ⟨g, cap, _, rfl, hc0, setRow_heap w g cur _ e _ hg, hroom, hcm, ?_, ?_⟩,
        ⟨rfl, rfl, rfl, by simp, fun k _ hk => setRow_other w g k _ (fun e => hk (by rw [hblk, e]))⟩, .inl (by rw [hblk]; simp [blkV, hc0]), ?_⟩
      · simp [Builtin.append_, run_underlying ht, run_underlying hu, sizeOf, typeInfo, hi, hint, hlen, hroom, hf, Addr.add_lit, hst]
      · simp only [List.size_toArray, List.length_append, List.length_take, List.length_drop, Array.length_toList]
        omega
      · simp only
        rw [htake, ← hlen']
        exact List.take_left
      · intro k o c hk ho hc
        rw [hblk] at hk
        injection hk with hk
        subst hk
        rw [cell_of_row w g o cur e (0, 0) hg] at hc
        rw [cell_of_row _ g o _ e (0, 0) (setRow_heap w g cur _ e _ hg)]
        simp only [List.getElem?_toArray]
        rw [List.append_assoc, List.getElem?_append_left (by simp; omega), List.getElem?_take, if_pos ho]
        simpa using hc
    · have holds : ∀ j u, xs[j]? = some u → w.cell? ((⟨g, 0, none⟩ : Addr).add j) = some u := by
        intro j u' hj
        rw [addr_add, cell_of_row w g _ cur e (0, 0) hg, Nat.zero_add]
        rw [← htake, List.getElem?_take] at hj
        split at hj
        · simpa using hj
        · cases hj
      have hfo := run_firstCells_some (P := P) w.drew i.size n ⟨g, 0, none⟩ n cap xs hxl (by simpa using holds)
      have h63' : ¬ (9223372036854775807 < ((n : Int) + (m : Int))) := by omega
      have h48' : ¬ (281474976710656 < Builtin.nextslicecap (n + m) cap * i.bytes) := by
        have := growslice_fits (need := n + m) (old := cap) (bytes := i.bytes) (by omega) hb
        omega
      obtain ⟨h2, h3, h4, h5⟩ := grown cap (by omega) (blkV (.slice (some ⟨g, 0, none⟩) n cap))
      refine ⟨_, _, ?_, h2, h3, .inr h4, fun k o c hk _ hc => h5 k o c ?_ hc⟩
      · simp [Builtin.append_, run_underlying ht, run_underlying hu, sizeOf, typeInfo, zeroValue, hi, hz, hint, hlen, hroom, h63', h48', Question.forced, hf', hfo, newRow, grownCap]
        congr 2
        apply Array.ext'
        simp [List.append_assoc]
      · rw [hblk] at hk
        injection hk with hk
        subst hk
        exact (Array.getElem?_eq_some_iff.1 hg).1
end Go.Proofs.Cdm
