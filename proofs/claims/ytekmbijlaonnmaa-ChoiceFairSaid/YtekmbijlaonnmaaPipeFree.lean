/-
  The pipe, for whoever has no live thread: contracts.
-/
import Derived.Test.YtekmbijlaonnmaaZHeap
set_option linter.unusedSimpArgs false
set_option linter.unusedVariables false
namespace Go.Proofs.Ytekmbijlaonnmaa.Z
open Go.Conc
section
variable {main : Bool} {D : World → World → Array Event → Prop} (hI : DI D) {n : Nat}
include hI
theorem at_pipe {w : World} {p arr N cap m : Nat} (k : Nat) (h : w.cell? ⟨p, 3, none⟩ = some (.slice (some ⟨arr, 0, none⟩) N cap)) (hN : N = 2 ^ m) (hm : m ≤ 20) (hk : k < 9223372036854775808) : CallZ Try.prog main D 131 #[.pointer (some ⟨p, 0, none⟩), .int .i64 k] w n fun v W m => v = .pointer (some ⟨arr, 2 * (k % N), none⟩) ∧ W = w ∧ m = n := by
  have hmask := mask_mod hN hm k hk
  have hlt : (((k % N : Nat)) : Int) < (N : Int) := by
    have : 0 < N := by rw [hN]; exact Nat.two_pow_pos m
    have := Nat.mod_lt k this
    omega
  have hnn : (0 : Int) ≤ ((k % N : Nat) : Int) := by omega
  have had : (((k % N : Nat) : Int).toNat * 2) = 2 * (k % N) := by simp; omega
  generalize ((k % N : Nat) : Int) = j at *
  generalize k % N = j' at *
  clear hN hm hk
  generalize (k : Int) = ki at *
  refine callZ_of Try.func131 rfl fun c' cs => ?_
  simp only [Try.ntmps131, List.size_toArray, List.length_cons, List.length_nil, Nat.reduceAdd, Nat.reduceSub, Array.replicate_succ, Array.replicate_zero, List.push_toArray, List.append_toArray, List.nil_append, List.cons_append]
  (repeat (first | (first | refine gz_seq hI ?_ | refine gz_block hI ?_ | refine gz_region_end hI ?_ | refine gz_skip hI ?_ | refine gz_inBlock hI ?_ | refine gz_label hI ?_ | refine gz_scope hI ?_ | refine gz_inScope hI ?_ | refine gz_exit hI rfl ?_) | (refine gz_region hI ?_; simp only [List.size_toArray, List.length_cons, List.length_nil, Nat.reduceAdd, Nat.zero_add, List.range, List.range.loop]) | (refine gz_rd hI rfl (by rfl) (by rfl) (by decide) (fun dd e he => by simp [go_sem, *] at he <;> (subst he; exact ⟨_, _, _, rfl, by assumption⟩)) (fun dd K hK => ?_); go_simp; refine hK _ _ rfl ?_; clear hK K; (try walk_nrm)) | (refine gz_unwanted hI rfl (by rfl) ?_; try walk_nrm) | (first | refine gz_cond_t hI rfl ?_ | refine gz_cond_f hI rfl ?_)))
  refine gz_region_held hI (fun x => x.cell? ⟨p, 3, none⟩ = some (.slice (some ⟨arr, 0, none⟩) N cap)) (List.range 14) (by decide) (by first | kernel_rfl | rfl) ?_
  have hSat : ∀ (x : World) (d : Nat), x.cell? ⟨p, 3, none⟩ = some (.slice (some ⟨arr, 0, none⟩) N cap) → (x.at d).cell? ⟨p, 3, none⟩ = some (.slice (some ⟨arr, 0, none⟩) N cap) := fun _ _ h => h
  have hS := h
  simp only [List.size_toArray, List.length_cons, List.length_nil, Nat.reduceAdd, Nat.zero_add]
  (refine anyZ_take hSat (by intro _ _ _ _ x; exact x.at _) (i := 0) rfl (by first | kernel_rfl | decide +kernel) (by rfl) (by first | kernel_rfl | decide +kernel) (by first | kernel_rfl | decide +kernel) (yieldsZ_rd hI (by rfl) (fun w hw K hK => by (try simp only [Sp] at hw); (try obtain ⟨hw1, hw2⟩ := hw); (try obtain ⟨hw3, hw4⟩ := hw2); (try obtain ⟨hw5, hw6⟩ := hw4); go_simp; exact hK) (fun w hw e he => by (try simp only [Sp] at hw); (try obtain ⟨hw1, hw2⟩ := hw); (try obtain ⟨hw3, hw4⟩ := hw2); (try obtain ⟨hw5, hw6⟩ := hw4); simp [go_sem, *] at he <;> (subst he; exact ⟨_, _, _, rfl, by assumption⟩))) (by assumption) ?_; (try walk_nrm))
  (refine anyZ_take hSat (by intro _ _ _ _ x; exact x.at _) (i := 1) rfl (by first | kernel_rfl | decide +kernel) (by rfl) (by first | kernel_rfl | decide +kernel) (by first | kernel_rfl | decide +kernel) (yieldsZ_rd hI (by rfl) (fun w hw K hK => by (try simp only [Sp] at hw); (try obtain ⟨hw1, hw2⟩ := hw); (try obtain ⟨hw3, hw4⟩ := hw2); (try obtain ⟨hw5, hw6⟩ := hw4); go_simp; exact hK) (fun w hw e he => by (try simp only [Sp] at hw); (try obtain ⟨hw1, hw2⟩ := hw); (try obtain ⟨hw3, hw4⟩ := hw2); (try obtain ⟨hw5, hw6⟩ := hw4); simp [go_sem, *] at he <;> (subst he; exact ⟨_, _, _, rfl, by assumption⟩))) (by assumption) ?_; (try walk_nrm))
  (refine anyZ_take hSat (by intro _ _ _ _ x; exact x.at _) (i := 2) rfl (by first | kernel_rfl | decide +kernel) (by rfl) (by first | kernel_rfl | decide +kernel) (by first | kernel_rfl | decide +kernel) (yieldsZ_rd hI (by rfl) (fun w hw K hK => by (try simp only [Sp] at hw); (try obtain ⟨hw1, hw2⟩ := hw); (try obtain ⟨hw3, hw4⟩ := hw2); (try obtain ⟨hw5, hw6⟩ := hw4); go_simp; exact hK) (fun w hw e he => by (try simp only [Sp] at hw); (try obtain ⟨hw1, hw2⟩ := hw); (try obtain ⟨hw3, hw4⟩ := hw2); (try obtain ⟨hw5, hw6⟩ := hw4); simp [go_sem, *] at he <;> (subst he; exact ⟨_, _, _, rfl, by assumption⟩))) (by assumption) ?_; (try walk_nrm))
  (refine anyZ_take hSat (by intro _ _ _ _ x; exact x.at _) (i := 3) rfl (by first | kernel_rfl | decide +kernel) (by rfl) (by first | kernel_rfl | decide +kernel) (by first | kernel_rfl | decide +kernel) (yieldsZ_rd hI (by rfl) (fun w hw K hK => by (try simp only [Sp] at hw); (try obtain ⟨hw1, hw2⟩ := hw); (try obtain ⟨hw3, hw4⟩ := hw2); (try obtain ⟨hw5, hw6⟩ := hw4); go_simp; exact hK) (fun w hw e he => by (try simp only [Sp] at hw); (try obtain ⟨hw1, hw2⟩ := hw); (try obtain ⟨hw3, hw4⟩ := hw2); (try obtain ⟨hw5, hw6⟩ := hw4); simp [go_sem, *] at he <;> (subst he; exact ⟨_, _, _, rfl, by assumption⟩))) (by assumption) ?_; (try walk_nrm))
  (refine anyZ_take hSat (by intro _ _ _ _ x; exact x.at _) (i := 4) rfl (by first | kernel_rfl | decide +kernel) (by rfl) (by first | kernel_rfl | decide +kernel) (by first | kernel_rfl | decide +kernel) (yieldsZ_rd hI (by rfl) (fun w hw K hK => by (try simp only [Sp] at hw); (try obtain ⟨hw1, hw2⟩ := hw); (try obtain ⟨hw3, hw4⟩ := hw2); (try obtain ⟨hw5, hw6⟩ := hw4); go_simp; exact hK) (fun w hw e he => by (try simp only [Sp] at hw); (try obtain ⟨hw1, hw2⟩ := hw); (try obtain ⟨hw3, hw4⟩ := hw2); (try obtain ⟨hw5, hw6⟩ := hw4); simp [go_sem, *] at he <;> (subst he; exact ⟨_, _, _, rfl, by assumption⟩))) (by assumption) ?_; (try walk_nrm))
  (refine anyZ_take hSat (by intro _ _ _ _ x; exact x.at _) (i := 5) rfl (by first | kernel_rfl | decide +kernel) (by rfl) (by first | kernel_rfl | decide +kernel) (by first | kernel_rfl | decide +kernel) (yieldsZ_rd hI (by rfl) (fun w hw K hK => by (try simp only [Sp] at hw); (try obtain ⟨hw1, hw2⟩ := hw); (try obtain ⟨hw3, hw4⟩ := hw2); (try obtain ⟨hw5, hw6⟩ := hw4); go_simp; exact hK) (fun w hw e he => by (try simp only [Sp] at hw); (try obtain ⟨hw1, hw2⟩ := hw); (try obtain ⟨hw3, hw4⟩ := hw2); (try obtain ⟨hw5, hw6⟩ := hw4); simp [go_sem, *] at he <;> (subst he; exact ⟨_, _, _, rfl, by assumption⟩))) (by assumption) ?_; (try walk_nrm))
  (refine anyZ_take hSat (by intro _ _ _ _ x; exact x.at _) (i := 6) rfl (by first | kernel_rfl | decide +kernel) (by rfl) (by first | kernel_rfl | decide +kernel) (by first | kernel_rfl | decide +kernel) (yieldsZ_rd hI (by rfl) (fun w hw K hK => by (try simp only [Sp] at hw); (try obtain ⟨hw1, hw2⟩ := hw); (try obtain ⟨hw3, hw4⟩ := hw2); (try obtain ⟨hw5, hw6⟩ := hw4); go_simp; exact hK) (fun w hw e he => by (try simp only [Sp] at hw); (try obtain ⟨hw1, hw2⟩ := hw); (try obtain ⟨hw3, hw4⟩ := hw2); (try obtain ⟨hw5, hw6⟩ := hw4); simp [go_sem, *] at he <;> (subst he; exact ⟨_, _, _, rfl, by assumption⟩))) (by assumption) ?_; (try walk_nrm))
  (refine anyZ_take hSat (by intro _ _ _ _ x; exact x.at _) (i := 7) rfl (by first | kernel_rfl | decide +kernel) (by rfl) (by first | kernel_rfl | decide +kernel) (by first | kernel_rfl | decide +kernel) (yieldsZ_rd hI (by rfl) (fun w hw K hK => by (try simp only [Sp] at hw); (try obtain ⟨hw1, hw2⟩ := hw); (try obtain ⟨hw3, hw4⟩ := hw2); (try obtain ⟨hw5, hw6⟩ := hw4); go_simp; exact hK) (fun w hw e he => by (try simp only [Sp] at hw); (try obtain ⟨hw1, hw2⟩ := hw); (try obtain ⟨hw3, hw4⟩ := hw2); (try obtain ⟨hw5, hw6⟩ := hw4); simp [go_sem, *] at he <;> (subst he; exact ⟨_, _, _, rfl, by assumption⟩))) (by assumption) ?_; (try walk_nrm))
  (refine anyZ_take hSat (by intro _ _ _ _ x; exact x.at _) (i := 8) rfl (by first | kernel_rfl | decide +kernel) (by rfl) (by first | kernel_rfl | decide +kernel) (by first | kernel_rfl | decide +kernel) (yieldsZ_rd hI (by rfl) (fun w hw K hK => by (try simp only [Sp] at hw); (try obtain ⟨hw1, hw2⟩ := hw); (try obtain ⟨hw3, hw4⟩ := hw2); (try obtain ⟨hw5, hw6⟩ := hw4); go_simp; exact hK) (fun w hw e he => by (try simp only [Sp] at hw); (try obtain ⟨hw1, hw2⟩ := hw); (try obtain ⟨hw3, hw4⟩ := hw2); (try obtain ⟨hw5, hw6⟩ := hw4); simp [go_sem, *] at he <;> (subst he; exact ⟨_, _, _, rfl, by assumption⟩))) (by assumption) ?_; (try walk_nrm))
  (refine anyZ_take hSat (by intro _ _ _ _ x; exact x.at _) (i := 9) rfl (by first | kernel_rfl | decide +kernel) (by rfl) (by first | kernel_rfl | decide +kernel) (by first | kernel_rfl | decide +kernel) (yieldsZ_rd hI (by rfl) (fun w hw K hK => by (try simp only [Sp] at hw); (try obtain ⟨hw1, hw2⟩ := hw); (try obtain ⟨hw3, hw4⟩ := hw2); (try obtain ⟨hw5, hw6⟩ := hw4); go_simp; exact hK) (fun w hw e he => by (try simp only [Sp] at hw); (try obtain ⟨hw1, hw2⟩ := hw); (try obtain ⟨hw3, hw4⟩ := hw2); (try obtain ⟨hw5, hw6⟩ := hw4); simp [go_sem, *] at he <;> (subst he; exact ⟨_, _, _, rfl, by assumption⟩))) (by assumption) ?_; (try walk_nrm))
  (refine anyZ_take hSat (by intro _ _ _ _ x; exact x.at _) (i := 10) rfl (by first | kernel_rfl | decide +kernel) (by rfl) (by first | kernel_rfl | decide +kernel) (by first | kernel_rfl | decide +kernel) (yieldsZ_rd hI (by rfl) (fun w hw K hK => by (try simp only [Sp] at hw); (try obtain ⟨hw1, hw2⟩ := hw); (try obtain ⟨hw3, hw4⟩ := hw2); (try obtain ⟨hw5, hw6⟩ := hw4); go_simp; exact hK) (fun w hw e he => by (try simp only [Sp] at hw); (try obtain ⟨hw1, hw2⟩ := hw); (try obtain ⟨hw3, hw4⟩ := hw2); (try obtain ⟨hw5, hw6⟩ := hw4); simp [go_sem, *] at he <;> (subst he; exact ⟨_, _, _, rfl, by assumption⟩))) (by assumption) ?_; (try walk_nrm))
  (refine anyZ_take hSat (by intro _ _ _ _ x; exact x.at _) (i := 11) rfl (by first | kernel_rfl | decide +kernel) (by rfl) (by first | kernel_rfl | decide +kernel) (by first | kernel_rfl | decide +kernel) (yieldsZ_rd hI (by rfl) (fun w hw K hK => by (try simp only [Sp] at hw); (try obtain ⟨hw1, hw2⟩ := hw); (try obtain ⟨hw3, hw4⟩ := hw2); (try obtain ⟨hw5, hw6⟩ := hw4); go_simp; exact hK) (fun w hw e he => by (try simp only [Sp] at hw); (try obtain ⟨hw1, hw2⟩ := hw); (try obtain ⟨hw3, hw4⟩ := hw2); (try obtain ⟨hw5, hw6⟩ := hw4); simp [go_sem, *] at he <;> (subst he; exact ⟨_, _, _, rfl, by assumption⟩))) (by assumption) ?_; (try walk_nrm))
  try rw [hmask]
  (refine anyZ_take hSat (by intro _ _ _ _ x; exact x.at _) (i := 12) rfl (by first | kernel_rfl | decide +kernel) (by rfl) (by first | kernel_rfl | decide +kernel) (by first | kernel_rfl | decide +kernel) (yieldsZ_rd hI (by rfl) (fun w hw K hK => by (try simp only [Sp] at hw); (try obtain ⟨hw1, hw2⟩ := hw); (try obtain ⟨hw3, hw4⟩ := hw2); (try obtain ⟨hw5, hw6⟩ := hw4); go_simp; exact hK) (fun w hw e he => by (try simp only [Sp] at hw); (try obtain ⟨hw1, hw2⟩ := hw); (try obtain ⟨hw3, hw4⟩ := hw2); (try obtain ⟨hw5, hw6⟩ := hw4); simp [go_sem, *] at he <;> (subst he; exact ⟨_, _, _, rfl, by assumption⟩))) (by assumption) ?_; (try walk_nrm))
  try rw [had]
  (refine anyZ_take hSat (by intro _ _ _ _ x; exact x.at _) (i := 13) rfl (by first | kernel_rfl | decide +kernel) (by rfl) (by first | kernel_rfl | decide +kernel) (by first | kernel_rfl | decide +kernel) (yieldsZ_rd hI (by rfl) (fun w hw K hK => by (try simp only [Sp] at hw); (try obtain ⟨hw1, hw2⟩ := hw); (try obtain ⟨hw3, hw4⟩ := hw2); (try obtain ⟨hw5, hw6⟩ := hw4); go_simp; exact hK) (fun w hw e he => by (try simp only [Sp] at hw); (try obtain ⟨hw1, hw2⟩ := hw); (try obtain ⟨hw3, hw4⟩ := hw2); (try obtain ⟨hw5, hw6⟩ := hw4); simp [go_sem, *] at he <;> (subst he; exact ⟨_, _, _, rfl, by assumption⟩))) (by assumption) ?_; (try walk_nrm))
  refine anyZ_done (by first | kernel_rfl | decide +kernel) ?_ _
  exact gz_return hI rfl Try.func131 (resultsC_tmp rfl _)  ⟨rfl, rfl, rfl⟩
end
def pipeO (a b bell : Nat) (v : Value) : Obj := .cells #[.pointer (some ⟨a, 0, none⟩), .pointer (some ⟨b, 0, none⟩), .pointer (some ⟨bell, 0, none⟩), v] 254 (0, 0)
/-- The pointers in a pipe's row of places. -/
def ptrs (blk : Nat → Nat) (n : Nat) : List Value := (List.range n).map fun k => .pointer (some ⟨blk (2 + k), 0, none⟩)
/-- What the cells of a new pipe hold. -/
def val0 (k : Nat) : Int := if k < 2 then 0 else if k % 2 = 0 then ((k - 2) / 2 : Nat) else 0
/-- Half made: i places. -/
structure Half (w W : World) (bell i : Nat) (sv : Value) (blk : Nat → Nat) : Prop where
  keeps : Keeps w W (fun _ => False)
  size : w.heap.size + 3 ≤ W.heap.size
  pb : W.heap[w.heap.size + 2]? = some (pipeO (w.heap.size) (w.heap.size + 1) bell sv)
  own : W.ownsRow (w.heap.size + 3) 256 2 sv i (ptrs blk (2 * i))
  b0 : blk 0 = w.heap.size
  b1 : blk 1 = w.heap.size + 1
  cells : ∀ k, k < 2 + 2 * i → W.heap[blk k]? = some (cellO (val0 k))
  mono : ∀ j k, j < k → k < 2 + 2 * i → blk j < blk k
theorem ptrs_succ (blk blk' : Nat → Nat) (i q : Nat) (h : ∀ k, k < 2 + 2 * i → blk' k = blk k) (h1 : blk' (2 + 2 * i) = q) (h2 : blk' (3 + 2 * i) = q + 1) : ptrs blk' (2 * (i + 1)) = ptrs blk (2 * i) ++ [.pointer (some ⟨q, 0, none⟩), .pointer (some ⟨q + 1, 0, none⟩)] := by
  unfold ptrs
  rw [show 2 * (i + 1) = 2 * i + 1 + 1 by omega, List.range_succ, List.range_succ]
  simp only [List.map_append, List.map_cons, List.map_nil, List.append_assoc, List.cons_append, List.nil_append]
  congr 1
  · refine List.map_congr_left fun k hk => ?_
    rw [h _ (by have := List.mem_range.1 hk; omega)]
  · rw [h1, show 2 + (2 * i + 1) = 3 + 2 * i by omega, h2]
def rowO (q : Nat) : Obj := .cells #[.pointer (some ⟨q, 0, none⟩), .pointer (some ⟨q + 1, 0, none⟩)] 256 (0, 0)
theorem Half.pb4 {w W W4 : World} {bell i : Nat} {sv : Value} {blk : Nat → Nat} (hH : Half w W bell i sv blk)
    (hg : (((W.alloc (cellO (i : Int))).alloc (cellO 0)).alloc (rowO W.heap.size)).grownBy W4 sv.ownBlock) : W4.heap[w.heap.size + 2]? = some (pipeO w.heap.size (w.heap.size + 1) bell sv) := by
  have h3 := heap_alloc_old' (o := rowO W.heap.size) (heap_alloc_old' (o := cellO 0) (heap_alloc_old' (o := cellO (i : Int)) hH.pb))
  rw [hg.block _ (lt_of_heap h3) fun e => by have := (hH.own.lt _ e.symm).1; omega]
  exact h3
def blkS (blk : Nat → Nat) (i q k : Nat) : Nat := if k < 2 + 2 * i then blk k else q + (k - (2 + 2 * i))
theorem Half.next {w W W4 : World} {bell i : Nat} {sv sv' : Value} {blk : Nat → Nat} (hH : Half w W bell i sv blk)
    (hown : W4.ownsRow (w.heap.size + 3) 256 2 sv' (i + 1) (ptrs blk (2 * i) ++ [.pointer (some ⟨W.heap.size, 0, none⟩), .pointer (some ⟨W.heap.size + 1, 0, none⟩)]))
    (hg : (((W.alloc (cellO (i : Int))).alloc (cellO 0)).alloc (rowO W.heap.size)).grownBy W4 sv.ownBlock) : Half w (W4.setCell ⟨w.heap.size + 2, 3, none⟩ sv') bell (i + 1) sv' (blkS blk i W.heap.size) := by
  have e1 : (W.alloc (cellO (i : Int))).heap.size = W.heap.size + 1 := heap_alloc_size' _ _
  have e2 : ((W.alloc (cellO (i : Int))).alloc (cellO 0)).heap.size = W.heap.size + 2 := by rw [heap_alloc_size', e1]
  have e3 : (((W.alloc (cellO (i : Int))).alloc (cellO 0)).alloc (rowO W.heap.size)).heap.size = W.heap.size + 3 := by rw [heap_alloc_size', e2]
  have hrow : ∀ k, sv.ownBlock = some k → w.heap.size + 3 ≤ k ∧ ∃ cur, W.heap[k]? = some (.cells cur 256 (0, 0)) := by
    intro k hk
    refine ⟨(hH.own.lt k hk).1, ?_⟩
    rcases hH.own.2 with ⟨rfl, _⟩ | ⟨g, cap, cur, rfl, _, h, _⟩
    · cases hk
    · simp only [Value.ownBlock, Option.some.injEq] at hk
      subst hk
      exact ⟨cur, h⟩
  have hbig : w.heap.size + 3 ≤ W.heap.size := hH.size
  have up : ∀ b o, W.heap[b]? = some o → some b ≠ sv.ownBlock → W4.heap[b]? = some o := fun b o h hn => by
    rw [hg.block b (by rw [e3]; have := lt_of_heap h; omega) hn]
    exact heap_alloc_old' (heap_alloc_old' (heap_alloc_old' h))
  have hpb4 : W4.heap[w.heap.size + 2]? = some (pipeO w.heap.size (w.heap.size + 1) bell sv) := up _ _ hH.pb fun e => by have := (hrow _ e.symm).1; omega
  have cells4 : ∀ k, k < 2 + 2 * (i + 1) → W4.heap[blkS blk i W.heap.size k]? = some (cellO (val0 k)) ∧ blkS blk i W.heap.size k ≠ w.heap.size + 2 := by
    intro k hk
    unfold blkS
    by_cases h : k < 2 + 2 * i
    · rw [if_pos h]
      refine ⟨up _ _ (hH.cells k h) fun e => ?_, fun e => ?_⟩
      · obtain ⟨_, cur, hc⟩ := hrow _ e.symm
        rw [hH.cells k h] at hc
        simp [cellO] at hc
      · have := hH.cells k h
        rw [e, hH.pb] at this
        simp [cellO, pipeO] at this
    · rw [if_neg h]
      have hk2 : k = 2 + 2 * i ∨ k = 3 + 2 * i := by omega
      refine ⟨?_, by omega⟩
      rw [hg.block _ (by rw [e3]; omega) fun e => by obtain ⟨_, cur, hc⟩ := hrow _ e.symm; have := lt_of_heap hc; omega]
      rcases hk2 with rfl | rfl
      · have : val0 (2 + 2 * i) = (i : Int) := by unfold val0; rw [if_neg (by omega), if_pos (by omega)]; congr 1; omega
        rw [this, Nat.sub_self, Nat.add_zero]
        exact heap_alloc_old' (heap_alloc_old' (heap_alloc_new' _ _))
      · have : val0 (3 + 2 * i) = 0 := by unfold val0; rw [if_neg (by omega), if_neg (by omega)]
        rw [this, show 3 + 2 * i - (2 + 2 * i) = 1 by omega, ← e1]
        exact heap_alloc_old' (heap_alloc_new' _ _)
  refine ⟨⟨?_, (os2 hg.os hg.output).trans hH.keeps.os, fun b hb _ => ?_⟩, ?_, ?_, ?_, ?_, ?_, fun k hk => ?_, fun j k hjk hk => ?_⟩
  · rw [heap_set_size]; have := hg.size; rw [e3] at this; omega
  · rw [heap_set_ne (by omega), hg.block b (by rw [e3]; omega) fun e => by have := (hrow _ e.symm).1; omega]
    have hbW : b < W.heap.size := by omega
    have := hH.keeps.old b hb (fun h => h)
    rw [← this, Array.getElem?_eq_getElem hbW]
    exact heap_alloc_old' (heap_alloc_old' (heap_alloc_old' (Array.getElem?_eq_getElem hbW)))
  · rw [heap_set_size]; have := hg.size; rw [e3] at this; omega
  · rw [heap_set_self hpb4]; rfl
  · rw [ptrs_succ blk (blkS blk i W.heap.size) i W.heap.size (fun k hk => by unfold blkS; rw [if_pos hk]) (by unfold blkS; rw [if_neg (by omega)]; omega) (by unfold blkS; rw [if_neg (by omega)]; omega)]
    refine ⟨hown.1, hown.2.imp id fun ⟨g, cap, cur, a, b, c, d⟩ => ⟨g, cap, cur, a, b, ?_, d⟩⟩
    rw [heap_set_ne (by omega)]; exact c
  · unfold blkS; rw [if_pos (by omega)]; exact hH.b0
  · unfold blkS; rw [if_pos (by omega)]; exact hH.b1
  · rw [heap_set_ne (fun e => (cells4 k hk).2 e.symm)]; exact (cells4 k hk).1
  · have hblk : ∀ k, k < 2 + 2 * i → blk k < W.heap.size := fun k h => lt_of_heap (hH.cells k h)
    unfold blkS
    by_cases h1 : j < 2 + 2 * i <;> by_cases h2 : k < 2 + 2 * i
    · rw [if_pos h1, if_pos h2]; exact hH.mono j k hjk h2
    · rw [if_pos h1, if_neg h2]; have := hblk j h1; omega
    · omega
    · rw [if_neg h1, if_neg h2]; omega
set_option maxRecDepth 20000 in
theorem pipe_new (main : Bool) (n : Nat) (w : World) (N bell : Nat) (h1 : ¬ ((N : Int) < 2)) (h2 : ¬ ((N : Int) > 4096)) (h3 : bits .and .i64 (N : Int) (IntKind.i64.wrap ((N : Int) - 1)) = 0) :
   CallZ Try.prog main DT 36 #[.int .i64 (N : Int), .pointer (some ⟨bell, 0, none⟩)] w n fun x W m => m = n ∧ x = .tuple #[.pointer (some ⟨w.heap.size + 2, 0, none⟩), .int .i64 0] ∧ ∃ sv blk, Half w W bell N sv blk := by
  have hI := di_T
  have h2' : ¬ (4096 < (N : Int)) := h2
  refine callZ_of Try.func36 rfl fun c' cs => ?_
  simp only [Try.ntmps36, List.size_toArray, List.length_cons, List.length_nil, Nat.reduceAdd, Nat.reduceSub, Array.replicate_succ, Array.replicate_zero, List.push_toArray, List.append_toArray, List.nil_append, List.cons_append]
  (repeat (first | (first | refine gz_seq hI ?_ | refine gz_block hI ?_ | refine gz_region_end hI ?_ | refine gz_skip hI ?_ | refine gz_inBlock hI ?_ | refine gz_label hI ?_ | refine gz_scope hI ?_ | refine gz_inScope hI ?_ | refine gz_exit hI rfl ?_) | (refine gz_region hI ?_; simp only [List.size_toArray, List.length_cons, List.length_nil, Nat.reduceAdd, Nat.zero_add, List.range, List.range.loop]) | (refine gl_op rfl (by rfl) (by rfl) (by decide) (fun dd e he => by simp [go_sem, *] at he <;> first | (subst he; exact ⟨nofun, nofun⟩) | (rcases he with he | he <;> subst he <;> exact ⟨nofun, nofun⟩) | (rcases he with he | he | he <;> subst he <;> exact ⟨nofun, nofun⟩) | (rcases he with he | he | he | he <;> subst he <;> exact ⟨nofun, nofun⟩)) (fun dd K hK => ?_); go_simp; refine hK _ _ ?_; clear hK K; (try walk_nrm); (try simp only [at_at', alloc_at', setCell_at']); refine Gz.at ?_ _) | (refine gz_unwanted hI rfl (by rfl) ?_; try walk_nrm) | (first | refine gz_cond_t hI rfl ?_ | refine gz_cond_f hI rfl ?_)))
  refine gz_callf hI rfl (by rfl) (by decide) rfl rfl Try.func18 (by rfl) rfl (cell_new main n _ 0) (by simp [Act.eval]) ?_
  rintro _ _ _ ⟨rfl, rfl, rfl⟩
  walk_nrm
  (repeat (first | (first | refine gz_seq hI ?_ | refine gz_block hI ?_ | refine gz_region_end hI ?_ | refine gz_skip hI ?_ | refine gz_inBlock hI ?_ | refine gz_label hI ?_ | refine gz_scope hI ?_ | refine gz_inScope hI ?_ | refine gz_exit hI rfl ?_) | (refine gz_region hI ?_; simp only [List.size_toArray, List.length_cons, List.length_nil, Nat.reduceAdd, Nat.zero_add, List.range, List.range.loop]) | (refine gl_op rfl (by rfl) (by rfl) (by decide) (fun dd e he => by simp [go_sem, *] at he <;> first | (subst he; exact ⟨nofun, nofun⟩) | (rcases he with he | he <;> subst he <;> exact ⟨nofun, nofun⟩) | (rcases he with he | he | he <;> subst he <;> exact ⟨nofun, nofun⟩) | (rcases he with he | he | he | he <;> subst he <;> exact ⟨nofun, nofun⟩)) (fun dd K hK => ?_); go_simp; refine hK _ _ ?_; clear hK K; (try walk_nrm); (try simp only [at_at', alloc_at', setCell_at']); refine Gz.at ?_ _) | (refine gz_unwanted hI rfl (by rfl) ?_; try walk_nrm) | (first | refine gz_cond_t hI rfl ?_ | refine gz_cond_f hI rfl ?_)))
  refine gz_callf hI rfl (by rfl) (by decide) rfl rfl Try.func18 (by rfl) rfl (cell_new main _ _ 0) (by simp [Act.eval]) ?_
  rintro _ _ _ ⟨rfl, rfl, rfl⟩
  walk_nrm
  (repeat (first | (first | refine gz_seq hI ?_ | refine gz_block hI ?_ | refine gz_region_end hI ?_ | refine gz_skip hI ?_ | refine gz_inBlock hI ?_ | refine gz_label hI ?_ | refine gz_scope hI ?_ | refine gz_inScope hI ?_ | refine gz_exit hI rfl ?_) | (refine gz_region hI ?_; simp only [List.size_toArray, List.length_cons, List.length_nil, Nat.reduceAdd, Nat.zero_add, List.range, List.range.loop]) | (refine gl_op rfl (by rfl) (by rfl) (by decide) (fun dd e he => by simp [go_sem, *] at he <;> first | (subst he; exact ⟨nofun, nofun⟩) | (rcases he with he | he <;> subst he <;> exact ⟨nofun, nofun⟩) | (rcases he with he | he | he <;> subst he <;> exact ⟨nofun, nofun⟩) | (rcases he with he | he | he | he <;> subst he <;> exact ⟨nofun, nofun⟩)) (fun dd K hK => ?_); go_simp; refine hK _ _ ?_; clear hK K; (try walk_nrm); (try simp only [at_at', alloc_at', setCell_at']); refine Gz.at ?_ _) | (refine gz_unwanted hI rfl (by rfl) ?_; try walk_nrm) | (first | refine gz_cond_t hI rfl ?_ | refine gz_cond_f hI rfl ?_)))
  have hHalf : Half w (((w.alloc (cellO 0)).alloc (cellO 0)).alloc (pipeO w.heap.size (w.heap.size + 1) bell (.slice none 0 0))) bell 0 (.slice none 0 0) (fun k => w.heap.size + k) := by
    have e1 : ((w.alloc (cellO 0)).heap.size) = w.heap.size + 1 := heap_alloc_size' _ _
    have e2 : (((w.alloc (cellO 0)).alloc (cellO 0)).heap.size) = w.heap.size + 2 := by rw [heap_alloc_size', e1]
    refine ⟨((Keeps.alloc _ _ _).trans (Keeps.alloc _ _ _)).trans (Keeps.alloc _ _ _), by rw [heap_alloc_size', e2]; exact Nat.le_refl _, ?_, World.ownsRow_nil _ _ _ _, rfl, rfl, fun k hk => ?_, fun j k h _ => by simpa using h⟩
    · have := heap_alloc_new' ((w.alloc (cellO 0)).alloc (cellO 0)) (pipeO w.heap.size (w.heap.size + 1) bell (.slice none 0 0))
      rw [e2] at this
      exact this
    · have : k = 0 ∨ k = 1 := by omega
      rcases this with rfl | rfl
      · exact heap_alloc_old' (heap_alloc_old' (heap_alloc_new' _ _))
      · have := heap_alloc_new' (w.alloc (cellO 0)) (cellO 0)
        rw [e1] at this
        exact heap_alloc_old' this
  change Gz _ _ _ _ _ (((w.alloc (cellO 0)).alloc (cellO 0)).alloc (pipeO w.heap.size (w.heap.size + 1) bell (.slice none 0 0))) _
  generalize ((w.alloc (cellO 0)).alloc (cellO 0)).alloc (pipeO w.heap.size (w.heap.size + 1) bell (.slice none 0 0)) = W0 at *
  generalize hsz : w.heap.size = sz at *
  generalize hp : sz + 1 + 1 = p at *
  refine gz_while hI (r := N) (fun r a W m => m = _ ∧ ∃ (i : Nat) (x2 x3 x7 x8 x9 x10 x11 x12 x13 x14 x15 x16 x17 x18 x19 x20 x21 x22 x23 x24 x25 x26 x27 x28 x29 x30 x31 x34 x35 x36 x37 x38 x39 x40 x41 x42 x43 x44 x45 x46 x47 x48 x49 x50 : Value), a = ⟨(List.toArray (.int .i64 (N : Int) :: .pointer (some ⟨bell, 0, none⟩) :: x2 :: x3 :: .pointer none :: .int .i64 0 :: .pointer (some ⟨p, 0, none⟩) :: x7 :: x8 :: x9 :: x10 :: x11 :: x12 :: x13 :: x14 :: x15 :: x16 :: x17 :: x18 :: x19 :: x20 :: x21 :: x22 :: x23 :: x24 :: x25 :: x26 :: x27 :: x28 :: x29 :: x30 :: x31 :: .int .i64 (N : Int) :: .int .i64 (i : Int) :: x34 :: x35 :: x36 :: x37 :: x38 :: x39 :: x40 :: x41 :: x42 :: x43 :: x44 :: x45 :: x46 :: x47 :: x48 :: x49 :: x50 :: [])), []⟩ ∧ i + r = N ∧ ∃ sv blk, Half w W bell i sv blk) ⟨rfl, 0, _, _, _, _, _, _, _, _, _, _, _, _, _, _, _, _, _, _, _, _, _, _, _, _, _, _, _, _, _, _, _, _, _, _, _, _, _, _, _, _, _, _, _, _, rfl, by omega, _, _, hHalf⟩ ?_
  clear hHalf
  rintro r a W m ⟨rfl, i, x2, x3, x7, x8, x9, x10, x11, x12, x13, x14, x15, x16, x17, x18, x19, x20, x21, x22, x23, x24, x25, x26, x27, x28, x29, x30, x31, x34, x35, x36, x37, x38, x39, x40, x41, x42, x43, x44, x45, x46, x47, x48, x49, x50, rfl, hr, sv, blk, hH⟩ ih
  by_cases hlt : (i : Int) < (N : Int)
  · (repeat (first | (first | refine gz_seq hI ?_ | refine gz_block hI ?_ | refine gz_region_end hI ?_ | refine gz_skip hI ?_ | refine gz_inBlock hI ?_ | refine gz_label hI ?_ | refine gz_scope hI ?_ | refine gz_inScope hI ?_ | refine gz_exit hI rfl ?_) | (refine gz_region hI ?_; simp only [List.size_toArray, List.length_cons, List.length_nil, Nat.reduceAdd, Nat.zero_add, List.range, List.range.loop]) | (refine gl_op rfl (by rfl) (by rfl) (by decide) (fun dd e he => by simp [go_sem, *] at he <;> first | (subst he; exact ⟨nofun, nofun⟩) | (rcases he with he | he <;> subst he <;> exact ⟨nofun, nofun⟩) | (rcases he with he | he | he <;> subst he <;> exact ⟨nofun, nofun⟩) | (rcases he with he | he | he | he <;> subst he <;> exact ⟨nofun, nofun⟩)) (fun dd K hK => ?_); go_simp; refine hK _ _ ?_; clear hK K; (try walk_nrm); (try simp only [at_at', alloc_at', setCell_at']); refine Gz.at ?_ _) | (refine gz_unwanted hI rfl (by rfl) ?_; try walk_nrm) | (first | refine gz_cond_t hI rfl ?_ | refine gz_cond_f hI rfl ?_)))
    have hpb : W.heap[p]? = some (pipeO sz (sz + 1) bell sv) := by have := hH.pb; rw [hsz] at this; rw [← hp]; exact this
    have hS : W.cell? ⟨p, 3, none⟩ = some sv := cell?_of hpb rfl
    refine gz_region_held hI (fun x => x.cell? ⟨p, 3, none⟩ = some sv) [0, 1, 2, 3, 4, 5, 8] (by decide) (by first | kernel_rfl | rfl) ?_
    have hSat : ∀ (x : World) (d : Nat), x.cell? ⟨p, 3, none⟩ = some sv → (x.at d).cell? ⟨p, 3, none⟩ = some sv := fun _ _ h => h
    simp only [List.size_toArray, List.length_cons, List.length_nil, Nat.reduceAdd, Nat.zero_add]
    (refine anyZ_take hSat (by intro _ _ _ _ x; exact x.at _) (i := 0) rfl (by first | kernel_rfl | decide +kernel) (by rfl) (by first | kernel_rfl | decide +kernel) (by first | kernel_rfl | decide +kernel) (yieldsZ_rd hI (by rfl) (fun w hw K hK => by (try simp only [Sp] at hw); (try obtain ⟨hw1, hw2⟩ := hw); (try obtain ⟨hw3, hw4⟩ := hw2); (try obtain ⟨hw5, hw6⟩ := hw4); go_simp; exact hK) (fun w hw e he => by (try simp only [Sp] at hw); (try obtain ⟨hw1, hw2⟩ := hw); (try obtain ⟨hw3, hw4⟩ := hw2); (try obtain ⟨hw5, hw6⟩ := hw4); simp [go_sem, *] at he <;> (subst he; exact ⟨_, _, _, rfl, by assumption⟩))) (by assumption) ?_; (try walk_nrm))
    (refine anyZ_take hSat (by intro _ _ _ _ x; exact x.at _) (i := 1) rfl (by first | kernel_rfl | decide +kernel) (by rfl) (by first | kernel_rfl | decide +kernel) (by first | kernel_rfl | decide +kernel) (yieldsZ_rd hI (by rfl) (fun w hw K hK => by (try simp only [Sp] at hw); (try obtain ⟨hw1, hw2⟩ := hw); (try obtain ⟨hw3, hw4⟩ := hw2); (try obtain ⟨hw5, hw6⟩ := hw4); go_simp; exact hK) (fun w hw e he => by (try simp only [Sp] at hw); (try obtain ⟨hw1, hw2⟩ := hw); (try obtain ⟨hw3, hw4⟩ := hw2); (try obtain ⟨hw5, hw6⟩ := hw4); simp [go_sem, *] at he <;> (subst he; exact ⟨_, _, _, rfl, by assumption⟩))) (by assumption) ?_; (try walk_nrm))
    (refine anyZ_take hSat (by intro _ _ _ _ x; exact x.at _) (i := 2) rfl (by first | kernel_rfl | decide +kernel) (by rfl) (by first | kernel_rfl | decide +kernel) (by first | kernel_rfl | decide +kernel) (yieldsZ_rd hI (by rfl) (fun w hw K hK => by (try simp only [Sp] at hw); (try obtain ⟨hw1, hw2⟩ := hw); (try obtain ⟨hw3, hw4⟩ := hw2); (try obtain ⟨hw5, hw6⟩ := hw4); go_simp; exact hK) (fun w hw e he => by (try simp only [Sp] at hw); (try obtain ⟨hw1, hw2⟩ := hw); (try obtain ⟨hw3, hw4⟩ := hw2); (try obtain ⟨hw5, hw6⟩ := hw4); simp [go_sem, *] at he <;> (subst he; exact ⟨_, _, _, rfl, by assumption⟩))) (by assumption) ?_; (try walk_nrm))
    (refine anyZ_take hSat (by intro _ _ _ _ x; exact x.at _) (i := 3) rfl (by first | kernel_rfl | decide +kernel) (by rfl) (by first | kernel_rfl | decide +kernel) (by first | kernel_rfl | decide +kernel) (yieldsZ_rd hI (by rfl) (fun w hw K hK => by (try simp only [Sp] at hw); (try obtain ⟨hw1, hw2⟩ := hw); (try obtain ⟨hw3, hw4⟩ := hw2); (try obtain ⟨hw5, hw6⟩ := hw4); go_simp; exact hK) (fun w hw e he => by (try simp only [Sp] at hw); (try obtain ⟨hw1, hw2⟩ := hw); (try obtain ⟨hw3, hw4⟩ := hw2); (try obtain ⟨hw5, hw6⟩ := hw4); simp [go_sem, *] at he <;> (subst he; exact ⟨_, _, _, rfl, by assumption⟩))) (by assumption) ?_; (try walk_nrm))
    (refine anyZ_take hSat (by intro _ _ _ _ x; exact x.at _) (i := 4) rfl (by first | kernel_rfl | decide +kernel) (by rfl) (by first | kernel_rfl | decide +kernel) (by first | kernel_rfl | decide +kernel) (yieldsZ_rd hI (by rfl) (fun w hw K hK => by (try simp only [Sp] at hw); (try obtain ⟨hw1, hw2⟩ := hw); (try obtain ⟨hw3, hw4⟩ := hw2); (try obtain ⟨hw5, hw6⟩ := hw4); go_simp; exact hK) (fun w hw e he => by (try simp only [Sp] at hw); (try obtain ⟨hw1, hw2⟩ := hw); (try obtain ⟨hw3, hw4⟩ := hw2); (try obtain ⟨hw5, hw6⟩ := hw4); simp [go_sem, *] at he <;> (subst he; exact ⟨_, _, _, rfl, by assumption⟩))) (by assumption) ?_; (try walk_nrm))
    (refine anyZ_take hSat (by intro _ _ _ _ x; exact x.at _) (i := 5) rfl (by first | kernel_rfl | decide +kernel) (by rfl) (by first | kernel_rfl | decide +kernel) (by first | kernel_rfl | decide +kernel) (yieldsZ_rd hI (by rfl) (fun w hw K hK => by (try simp only [Sp] at hw); (try obtain ⟨hw1, hw2⟩ := hw); (try obtain ⟨hw3, hw4⟩ := hw2); (try obtain ⟨hw5, hw6⟩ := hw4); go_simp; exact hK) (fun w hw e he => by (try simp only [Sp] at hw); (try obtain ⟨hw1, hw2⟩ := hw); (try obtain ⟨hw3, hw4⟩ := hw2); (try obtain ⟨hw5, hw6⟩ := hw4); simp [go_sem, *] at he <;> (subst he; exact ⟨_, _, _, rfl, by assumption⟩))) (by assumption) ?_; (try walk_nrm))
    refine anyZ_only (i := 6) (by first | kernel_rfl | decide +kernel) ?_
    refine opZ_call rfl (by rfl) rfl rfl Try.func18 (by rfl) rfl (cell_new main _ _ (i : Int)) (by simp [Act.eval]) ?_
    rintro _ _ _ ⟨rfl, rfl, rfl⟩ d1
    walk_nrm
    have hS1 : (W.alloc (cellO (i : Int))).cell? ⟨p, 3, none⟩ = some sv := cell?_of (heap_alloc_old' hpb) rfl
    refine ⟨fun _ => hS1, AnyZ.at hSat (by intro _ _ _ _ x; exact x.at _) _ _ _ _ _ d1 ?_⟩
    refine anyZ_only (i := 7) (by first | kernel_rfl | decide +kernel) ?_
    refine opZ_call rfl (by rfl) rfl rfl Try.func18 (by rfl) rfl (cell_new main _ _ 0) (by simp [Act.eval]) ?_
    rintro _ _ _ ⟨rfl, rfl, rfl⟩ d2
    walk_nrm
    have hS2 : ((W.alloc (cellO (i : Int))).alloc (cellO 0)).cell? ⟨p, 3, none⟩ = some sv := cell?_of (heap_alloc_old' (heap_alloc_old' hpb)) rfl
    refine ⟨fun _ => hS2, AnyZ.at hSat (by intro _ _ _ _ x; exact x.at _) _ _ _ _ _ d2 ?_⟩
    (refine anyZ_take hSat (by intro _ _ _ _ x; exact x.at _) (i := 8) rfl (by first | kernel_rfl | decide +kernel) (by rfl) (by first | kernel_rfl | decide +kernel) (by first | kernel_rfl | decide +kernel) (yieldsZ_rd hI (by rfl) (fun w hw K hK => by (try simp only [Sp] at hw); (try obtain ⟨hw1, hw2⟩ := hw); (try obtain ⟨hw3, hw4⟩ := hw2); (try obtain ⟨hw5, hw6⟩ := hw4); go_simp; exact hK) (fun w hw e he => by (try simp only [Sp] at hw); (try obtain ⟨hw1, hw2⟩ := hw); (try obtain ⟨hw3, hw4⟩ := hw2); (try obtain ⟨hw5, hw6⟩ := hw4); simp [go_sem, *] at he <;> (subst he; exact ⟨_, _, _, rfl, by assumption⟩))) (by assumption) ?_; (try walk_nrm))
    (refine anyZ_only (i := 9) (by first | kernel_rfl | decide +kernel) ?_; refine opL_op rfl (by rfl) (fun dd e he => by simp [go_sem, *] at he <;> first | (subst he; exact ⟨nofun, nofun⟩) | (rcases he with he | he <;> subst he <;> exact ⟨nofun, nofun⟩) | (rcases he with he | he | he <;> subst he <;> exact ⟨nofun, nofun⟩) | (rcases he with he | he | he | he <;> subst he <;> exact ⟨nofun, nofun⟩)) (fun dd K hK => ?_); go_simp; refine hK _ _ ?_; clear hK K; (try walk_nrm); (try simp only [at_at', alloc_at', setCell_at']))
    have hS3 : (((W.alloc (cellO (i : Int))).alloc (cellO 0)).alloc (rowO W.heap.size)).cell? ⟨p, 3, none⟩ = some sv := cell?_of (heap_alloc_old' (heap_alloc_old' (heap_alloc_old' hpb))) rfl
    refine ⟨fun _ => hS3, AnyZ.at hSat (by intro _ _ _ _ x; exact x.at _) _ _ _ _ _ _ ?_⟩
    change AnyZ _ _ _ _ _ _ _ _ _ _ _ _ (((W.alloc (cellO (i : Int))).alloc (cellO 0)).alloc (rowO W.heap.size)) _
    refine anyZ_only (i := 10) (by first | kernel_rfl | decide +kernel) ?_
    have e1 : (W.alloc (cellO (i : Int))).heap.size = W.heap.size + 1 := heap_alloc_size' _ _
    have e2 : ((W.alloc (cellO (i : Int))).alloc (cellO 0)).heap.size = W.heap.size + 2 := by rw [heap_alloc_size', e1]
    refine opL_append rfl (by rfl) rfl Try.underlying252 (size := 2) (bytes := 16) (by kernel_rfl) (by decide) (v := sv) (k := i) (xs := ptrs blk (2 * i)) rfl (((hH.own.alloc _).alloc _).alloc _) (ad := ⟨W.heap.size + 2, 0, none⟩) (m := 1) (c := 1) (news := [.pointer (some ⟨W.heap.size, 0, none⟩), .pointer (some ⟨W.heap.size + 1, 0, none⟩)]) rfl rfl (by
        intro j u hj
        rw [addr_add, ← e2]
        refine cell?_of (heap_alloc_new' _ _) ?_
        simpa [rowO] using hj) (by intro u hu; simp at hu; rcases hu with rfl | rfl <;> rfl) (by unfold maxLen; omega) (by omega) (by rw [heap_alloc_size', e2]; have := hH.size; omega) fun sv' W4 hown hg hat => ?_
    walk_nrm
    obtain ⟨gg, cap, rfl⟩ : ∃ gg cap, sv' = .slice (some ⟨gg, 0, none⟩) (i + 1) cap := by
      rcases hown.2 with ⟨_, h⟩ | ⟨g, cap, cur, h, _⟩
      · omega
      · exact ⟨g, cap, h⟩
    have hpb4 : W4.heap[p]? = some (pipeO sz (sz + 1) bell sv) := by have := hH.pb4 hg; rw [hsz] at this; rw [← hp]; exact this
    have hS4 : W4.cell? ⟨p, 3, none⟩ = some sv := cell?_of hpb4 rfl
    have hF4 : W4.frozen? ⟨p, 3, none⟩ = false := frozen?_of hpb4
    have hN := hH.next hown hg
    clear hS hS1 hS2 hS3 hpb
    refine ⟨fun _ => hS4, ?_⟩
    (refine anyZ_only (i := 11) (by first | kernel_rfl | decide +kernel) ?_; refine opL_op rfl (by rfl) (fun dd e he => by simp [go_sem, *] at he <;> first | (subst he; exact ⟨nofun, nofun⟩) | (rcases he with he | he <;> subst he <;> exact ⟨nofun, nofun⟩) | (rcases he with he | he | he <;> subst he <;> exact ⟨nofun, nofun⟩) | (rcases he with he | he | he | he <;> subst he <;> exact ⟨nofun, nofun⟩)) (fun dd K hK => ?_); go_simp; refine hK _ _ ?_; clear hK K; (try walk_nrm); (try simp only [at_at', alloc_at', setCell_at']))
    refine ⟨fun _ => hS4, AnyZ.at hSat (by intro _ _ _ _ x; exact x.at _) _ _ _ _ _ _ ?_⟩
    (refine anyZ_only (i := 12) (by first | kernel_rfl | decide +kernel) ?_; refine opL_op rfl (by rfl) (fun dd e he => by simp [go_sem, *] at he <;> first | (subst he; exact ⟨nofun, nofun⟩) | (rcases he with he | he <;> subst he <;> exact ⟨nofun, nofun⟩) | (rcases he with he | he | he <;> subst he <;> exact ⟨nofun, nofun⟩) | (rcases he with he | he | he | he <;> subst he <;> exact ⟨nofun, nofun⟩)) (fun dd K hK => ?_); go_simp; refine hK _ _ ?_; clear hK K; (try walk_nrm); (try simp only [at_at', alloc_at', setCell_at']))
    refine ⟨fun _ => hS4, AnyZ.at hSat (by intro _ _ _ _ x; exact x.at _) _ _ _ _ _ _ ?_⟩
    (refine anyZ_only (i := 13) (by first | kernel_rfl | decide +kernel) ?_; refine opL_op rfl (by rfl) (fun dd e he => by simp [go_sem, *] at he <;> first | (subst he; exact ⟨nofun, nofun⟩) | (rcases he with he | he <;> subst he <;> exact ⟨nofun, nofun⟩) | (rcases he with he | he | he <;> subst he <;> exact ⟨nofun, nofun⟩) | (rcases he with he | he | he | he <;> subst he <;> exact ⟨nofun, nofun⟩)) (fun dd K hK => ?_); go_simp; refine hK _ _ ?_; clear hK K; (try walk_nrm); (try simp only [at_at', alloc_at', setCell_at']))
    refine ⟨fun h => absurd (h.symm.trans (by kernel_rfl : lastOp _ _ _ _ = true)) (by decide), AnyZ.at hSat (by intro _ _ _ _ x; exact x.at _) _ _ _ _ _ _ ?_⟩
    refine anyZ_done (by first | kernel_rfl | decide +kernel) ?_ _
    have hw1 : IntKind.i64.wrap ((i : Int) + 1) = (i : Int) + 1 := wraps_i64 _ (by omega) (by omega)
    (repeat (first | (first | refine gz_seq hI ?_ | refine gz_block hI ?_ | refine gz_region_end hI ?_ | refine gz_skip hI ?_ | refine gz_inBlock hI ?_ | refine gz_label hI ?_ | refine gz_scope hI ?_ | refine gz_inScope hI ?_ | refine gz_exit hI rfl ?_) | (refine gz_region hI ?_; simp only [List.size_toArray, List.length_cons, List.length_nil, Nat.reduceAdd, Nat.zero_add, List.range, List.range.loop]) | (refine gl_op rfl (by rfl) (by rfl) (by decide) (fun dd e he => by simp [go_sem, *] at he <;> first | (subst he; exact ⟨nofun, nofun⟩) | (rcases he with he | he <;> subst he <;> exact ⟨nofun, nofun⟩) | (rcases he with he | he | he <;> subst he <;> exact ⟨nofun, nofun⟩) | (rcases he with he | he | he | he <;> subst he <;> exact ⟨nofun, nofun⟩)) (fun dd K hK => ?_); go_simp; refine hK _ _ ?_; clear hK K; (try walk_nrm); (try simp only [at_at', alloc_at', setCell_at']); refine Gz.at ?_ _) | (refine gz_unwanted hI rfl (by rfl) ?_; try walk_nrm) | (first | refine gz_cond_t hI rfl ?_ | refine gz_cond_f hI rfl ?_)))
    refine ih (r - 1) _ _ _ (by omega) ⟨rfl, i + 1, _, _, _, _, _, _, _, _, _, _, _, _, _, _, _, _, _, _, _, _, _, _, _, _, _, _, _, _, _, _, _, _, _, _, _, _, _, _, _, _, _, _, _, _, rfl, by omega, _, _, by rw [hsz, show sz + 2 = p from hp] at hN; exact hN⟩
  · have hr0 : i = N := by omega
    subst hr0
    (repeat (first | (first | refine gz_seq hI ?_ | refine gz_block hI ?_ | refine gz_region_end hI ?_ | refine gz_skip hI ?_ | refine gz_inBlock hI ?_ | refine gz_label hI ?_ | refine gz_scope hI ?_ | refine gz_inScope hI ?_ | refine gz_exit hI rfl ?_) | (refine gz_region hI ?_; simp only [List.size_toArray, List.length_cons, List.length_nil, Nat.reduceAdd, Nat.zero_add, List.range, List.range.loop]) | (refine gl_op rfl (by rfl) (by rfl) (by decide) (fun dd e he => by simp [go_sem, *] at he <;> first | (subst he; exact ⟨nofun, nofun⟩) | (rcases he with he | he <;> subst he <;> exact ⟨nofun, nofun⟩) | (rcases he with he | he | he <;> subst he <;> exact ⟨nofun, nofun⟩) | (rcases he with he | he | he | he <;> subst he <;> exact ⟨nofun, nofun⟩)) (fun dd K hK => ?_); go_simp; refine hK _ _ ?_; clear hK K; (try walk_nrm); (try simp only [at_at', alloc_at', setCell_at']); refine Gz.at ?_ _) | (refine gz_unwanted hI rfl (by rfl) ?_; try walk_nrm) | (first | refine gz_cond_t hI rfl ?_ | refine gz_cond_f hI rfl ?_)))
    exact gz_return hI rfl Try.func36 (resultsC_tmp2 rfl _)  ⟨rfl, rfl, _, _, hH⟩
/-! ### the calls of a cell, where no goroutine is started any more -/
theorem load_T {w : World} {c : Nat} {v : Int} (h : CellB w c v) : CallT Try.prog 33 #[.pointer (some ⟨c, 0, none⟩), .pointer none] w fun x W => x = .int .i64 v ∧ W = w := CallT.of fun n => (load_free h).mono fun _ _ _ x => ⟨x.1, x.2.1⟩
theorem store_T {w : World} {c : Nat} {v : Int} (h : CellB w c v) (y : Int) : CallT Try.prog 64 #[.pointer (some ⟨c, 0, none⟩), .pointer none, .int .i64 y] w fun x W => W = w.setCell ⟨c, 0, none⟩ (.int .i64 y) := CallT.of fun n => (store_free h y).mono fun _ _ _ x => x.1
theorem add_T {w : World} {c : Nat} {v : Int} (h : CellB w c v) (y : Int) : CallT Try.prog 102 #[.pointer (some ⟨c, 0, none⟩), .pointer none, .int .i64 y] w fun x W => x = .int .i64 (IntKind.i64.wrap (v + y)) ∧ W = w.setCell ⟨c, 0, none⟩ (.int .i64 (IntKind.i64.wrap (v + y))) := CallT.of fun n => (add_free h y).mono fun _ _ _ x => ⟨x.1, x.2.1⟩
theorem cas_T {w : World} {c : Nat} {v : Int} (h : CellB w c v) (y : Int) : CallT Try.prog 103 #[.pointer (some ⟨c, 0, none⟩), .pointer none, .int .i64 v, .int .i64 y] w fun x W => x = .bool true ∧ W = w.setCell ⟨c, 0, none⟩ (.int .i64 y) := CallT.of fun n => (cas_hit_free h y).mono fun _ _ _ x => ⟨x.1, x.2.1⟩
theorem new_T (w : World) (v : Int) : CallT Try.prog 18 #[.int .i64 v] w fun x W => x = .pointer (some ⟨w.heap.size, 0, none⟩) ∧ W = w.alloc (cellO v) := CallT.of fun n => (cell_new true n w v).mono fun _ _ _ x => ⟨x.1, x.2.1⟩
/-! ### a pipe in memory -/
structure Pipe where
  p : Nat
  arr : Nat
  N : Nat
  m : Nat
  cap : Nat
  bell : Nat
  lo : Nat
  hi : Nat
  blk : Nat → Nat
def Pipe.own (R : Pipe) (b : Nat) : Prop := R.lo ≤ b ∧ b < R.hi
structure PipeIs (R : Pipe) (w : World) (val : Nat → Int) : Prop where
  pow : R.N = 2 ^ R.m
  m1 : 1 ≤ R.m
  m12 : R.m ≤ 12
  pb : w.heap[R.p]? = some (pipeO (R.blk 0) (R.blk 1) R.bell (.slice (some ⟨R.arr, 0, none⟩) R.N R.cap))
  ar : ∃ cur, w.heap[R.arr]? = some (.cells cur 256 (0, 0)) ∧ ∀ k, k < 2 * R.N → cur[k]? = some (.pointer (some ⟨R.blk (2 + k), 0, none⟩))
  cells : ∀ k, k < 2 + 2 * R.N → w.heap[R.blk k]? = some (cellO (val k))
  mono : ∀ j k, j < k → k < 2 + 2 * R.N → R.blk j < R.blk k
  blkIn : ∀ k, k < 2 + 2 * R.N → R.own (R.blk k)
  pIn : R.own R.p
  arrIn : R.own R.arr
  bellOut : R.bell < R.lo
def vset (val : Nat → Int) (k : Nat) (x : Int) : Nat → Int := fun j => if j = k then x else val j
section
variable {R : Pipe} {w W : World} {val : Nat → Int}
theorem PipeIs.inj (h : PipeIs R w val) {j k : Nat} (hj : j < 2 + 2 * R.N) (hk : k < 2 + 2 * R.N) (e : R.blk j = R.blk k) : j = k := by
  rcases Nat.lt_trichotomy j k with x | x | x
  · have := h.mono j k x hk; omega
  · exact x
  · have := h.mono k j x hj; omega
theorem PipeIs.cellB (h : PipeIs R w val) {k : Nat} (hk : k < 2 + 2 * R.N) : CellB w (R.blk k) (val k) := h.cells k hk
theorem PipeIs.ne_p (h : PipeIs R w val) {k : Nat} (hk : k < 2 + 2 * R.N) : R.blk k ≠ R.p := fun e => by
  have := h.cells k hk
  rw [e, h.pb] at this
  simp [pipeO, cellO] at this
theorem PipeIs.ne_arr (h : PipeIs R w val) {k : Nat} (hk : k < 2 + 2 * R.N) : R.blk k ≠ R.arr := fun e => by
  obtain ⟨cur, hc, _⟩ := h.ar
  have := h.cells k hk
  rw [e, hc] at this
  simp [cellO] at this
theorem PipeIs.put (h : PipeIs R w val) {k : Nat} (hk : k < 2 + 2 * R.N) (x : Int) : PipeIs R (w.setCell ⟨R.blk k, 0, none⟩ (.int .i64 x)) (vset val k x) := by
  refine ⟨h.pow, h.m1, h.m12, by rw [heap_set_ne (h.ne_p hk)]; exact h.pb, ?_, fun j hj => ?_, h.mono, h.blkIn, h.pIn, h.arrIn, h.bellOut⟩
  · obtain ⟨cur, hc, hx⟩ := h.ar
    exact ⟨cur, by rw [heap_set_ne (h.ne_arr hk)]; exact hc, hx⟩
  · unfold vset
    by_cases e : j = k
    · subst e
      rw [if_pos rfl]
      exact cellB_set (h.cells j hj) x
    · rw [if_neg e, heap_set_ne (fun z => e (h.inj hj hk z.symm))]
      exact h.cells j hj
/-- What lies elsewhere does not matter to it. -/
theorem PipeIs.kept (h : PipeIs R w val) {S : Nat → Prop} (hk : Keeps w W S) (hS : ∀ b, R.own b → ¬ S b) : PipeIs R W val := by
  refine ⟨h.pow, h.m1, h.m12, hk.heap h.pb (hS _ h.pIn), ?_, fun j hj => hk.heap (h.cells j hj) (hS _ (h.blkIn j hj)), h.mono, h.blkIn, h.pIn, h.arrIn, h.bellOut⟩
  obtain ⟨cur, hc, hx⟩ := h.ar
  exact ⟨cur, hk.heap hc (hS _ h.arrIn), hx⟩
theorem PipeIs.c0 (h : PipeIs R w val) : w.cell? ⟨R.p, 0, none⟩ = some (.pointer (some ⟨R.blk 0, 0, none⟩)) := cell?_of h.pb rfl
theorem PipeIs.c1 (h : PipeIs R w val) : w.cell? ⟨R.p, 1, none⟩ = some (.pointer (some ⟨R.blk 1, 0, none⟩)) := cell?_of h.pb rfl
theorem PipeIs.c2 (h : PipeIs R w val) : w.cell? ⟨R.p, 2, none⟩ = some (.pointer (some ⟨R.bell, 0, none⟩)) := cell?_of h.pb rfl
theorem PipeIs.c3 (h : PipeIs R w val) : w.cell? ⟨R.p, 3, none⟩ = some (.slice (some ⟨R.arr, 0, none⟩) R.N R.cap) := cell?_of h.pb rfl
theorem PipeIs.pos (h : PipeIs R w val) : 2 ≤ R.N := by
  rw [h.pow]
  have : 2 ^ 1 ≤ 2 ^ R.m := Nat.pow_le_pow_right (by decide) h.m1
  omega
theorem PipeIs.modlt (h : PipeIs R w val) (k : Nat) : k % R.N < R.N := Nat.mod_lt _ (by have := h.pos; omega)
theorem PipeIs.place (h : PipeIs R w val) {j : Nat} (hj : j < 2 * R.N) : w.cell? ⟨R.arr, j, none⟩ = some (.pointer (some ⟨R.blk (2 + j), 0, none⟩)) := by
  obtain ⟨cur, hc, hx⟩ := h.ar
  exact cell?_of hc (hx j hj)
end
theorem Half.pipe {w W : World} {bell N m : Nat} {sv : Value} {blk : Nat → Nat} (h : Half w W bell N sv blk) (hN : N = 2 ^ m) (h1 : 1 ≤ m) (h12 : m ≤ 12) (hb : bell < w.heap.size) :
    ∃ R : Pipe, PipeIs R W val0 ∧ R.N = N ∧ R.bell = bell ∧ R.p = w.heap.size + 2 ∧ R.lo = w.heap.size ∧ R.hi = W.heap.size := by
  have hpos : 0 < N := by rw [hN]; exact Nat.two_pow_pos m
  rcases h.own.2 with ⟨_, e⟩ | ⟨g, cap, cur, rfl, hg, hc, _, _, _, ht⟩
  · omega
  · refine ⟨⟨w.heap.size + 2, g, N, m, cap, bell, w.heap.size, W.heap.size, blk⟩, ⟨hN, h1, h12, by show W.heap[w.heap.size + 2]? = some (pipeO (blk 0) (blk 1) bell (.slice (some ⟨g, 0, none⟩) N cap)); rw [h.b0, h.b1]; exact h.pb, ⟨cur, hc, fun k hk => ?_⟩, h.cells, h.mono, fun k hk => ⟨?_, lt_of_heap (h.cells k hk)⟩, ⟨by simp, by have := h.size; simp; omega⟩, ⟨by simp; omega, lt_of_heap hc⟩, hb⟩, rfl, rfl, rfl, rfl, rfl⟩
    · have e : (ptrs blk (2 * N))[k]? = some (.pointer (some ⟨blk (2 + k), 0, none⟩)) := by
        unfold ptrs
        simp only [List.getElem?_map]
        rw [List.getElem?_range hk]
        rfl
      rw [← ht, List.getElem?_take] at e
      split at e
      · simpa using e
      · cases e
    · rcases Nat.eq_zero_or_pos k with rfl | hp
      · show w.heap.size ≤ blk 0
        rw [h.b0]; exact Nat.le_refl _
      · have := h.mono 0 k hp hk
        rw [h.b0] at this
        exact Nat.le_of_lt this
/-! ### its calls, where no goroutine is started any more -/
theorem pnone_T {R : Pipe} {w : World} {val : Nat → Int} (h : PipeIs R w val) : CallT Try.prog 130 #[.pointer (some ⟨R.p, 0, none⟩)] w fun x W => x = .bool false ∧ W = w := by
  have h0 := h.c0
  clear h
  refine callT_of Try.func130 rfl fun c' cs => ?_
  simp only [Try.ntmps130, List.size_toArray, List.length_cons, List.length_nil, Nat.reduceAdd, Nat.reduceSub, Array.replicate_succ, Array.replicate_zero, List.push_toArray, List.append_toArray, List.nil_append, List.cons_append]
  (repeat (first | (first | refine gt_seq ?_ | refine gt_block ?_ | refine gt_region_end ?_ | refine gt_skip ?_ | refine gt_inBlock ?_ | refine gt_label ?_ | refine gt_scope ?_ | refine gt_inScope ?_ | refine gt_exit rfl ?_) | (refine gt_region ?_; simp only [List.size_toArray, List.length_cons, List.length_nil, Nat.reduceAdd, Nat.zero_add, List.range, List.range.loop]) | (refine gt_op rfl (by rfl) (by rfl) (by decide) (fun dd K hK => ?_); go_simp; refine hK _ _ ?_; clear hK K; (try walk_nrm); (try simp only [at_at', alloc_at', setCell_at']); refine Gt.at ?_ _) | (refine gt_unwanted rfl (by rfl) ?_; try walk_nrm) | (first | refine gt_cond_t rfl ?_ | refine gt_cond_f rfl ?_)))
  exact gt_return rfl Try.func130 (resultsC_tmp rfl _)  ⟨rfl, rfl⟩
theorem bell_T {R : Pipe} {w : World} {val : Nat → Int} (h : PipeIs R w val) : CallT Try.prog 164 #[.pointer (some ⟨R.p, 0, none⟩)] w fun x W => x = .pointer (some ⟨R.bell, 0, none⟩) ∧ W = w := by
  have h2 := h.c2
  have hn := pnone_T h
  clear h
  refine callT_of Try.func164 rfl fun c' cs => ?_
  simp only [Try.ntmps164, List.size_toArray, List.length_cons, List.length_nil, Nat.reduceAdd, Nat.reduceSub, Array.replicate_succ, Array.replicate_zero, List.push_toArray, List.append_toArray, List.nil_append, List.cons_append]
  (repeat (first | (first | refine gt_seq ?_ | refine gt_block ?_ | refine gt_region_end ?_ | refine gt_skip ?_ | refine gt_inBlock ?_ | refine gt_label ?_ | refine gt_scope ?_ | refine gt_inScope ?_ | refine gt_exit rfl ?_) | (refine gt_region ?_; simp only [List.size_toArray, List.length_cons, List.length_nil, Nat.reduceAdd, Nat.zero_add, List.range, List.range.loop]) | (refine gt_op rfl (by rfl) (by rfl) (by decide) (fun dd K hK => ?_); go_simp; refine hK _ _ ?_; clear hK K; (try walk_nrm); (try simp only [at_at', alloc_at', setCell_at']); refine Gt.at ?_ _) | (refine gt_unwanted rfl (by rfl) ?_; try walk_nrm) | (first | refine gt_cond_t rfl ?_ | refine gt_cond_f rfl ?_)))
  refine gt_callf rfl (by rfl) (by decide) rfl rfl Try.func130 (by rfl) rfl (hn) (by simp [Act.eval]) ?_
  (rintro _ W' ⟨rfl, e'⟩; subst W'; walk_nrm; (repeat (first | (first | refine gt_seq ?_ | refine gt_block ?_ | refine gt_region_end ?_ | refine gt_skip ?_ | refine gt_inBlock ?_ | refine gt_label ?_ | refine gt_scope ?_ | refine gt_inScope ?_ | refine gt_exit rfl ?_) | (refine gt_region ?_; simp only [List.size_toArray, List.length_cons, List.length_nil, Nat.reduceAdd, Nat.zero_add, List.range, List.range.loop]) | (refine gt_op rfl (by rfl) (by rfl) (by decide) (fun dd K hK => ?_); go_simp; refine hK _ _ ?_; clear hK K; (try walk_nrm); (try simp only [at_at', alloc_at', setCell_at']); refine Gt.at ?_ _) | (refine gt_unwanted rfl (by rfl) ?_; try walk_nrm) | (first | refine gt_cond_t rfl ?_ | refine gt_cond_f rfl ?_))))
  exact gt_return rfl Try.func164 (resultsC_tmp rfl _)  ⟨rfl, rfl⟩
theorem at_T {R : Pipe} {w : World} {val : Nat → Int} (h : PipeIs R w val) (k : Nat) (hk : k < 9223372036854775808) : CallT Try.prog 131 #[.pointer (some ⟨R.p, 0, none⟩), .int .i64 k] w fun x W => x = .pointer (some ⟨R.arr, 2 * (k % R.N), none⟩) ∧ W = w :=
  CallT.of fun n => (at_pipe di_T k (cell?_of h.pb rfl) h.pow (by have := h.m12; omega) hk).mono fun _ _ _ x => ⟨x.1, x.2.1⟩
theorem trySend_T {R : Pipe} {w : World} {val : Nat → Int} (h : PipeIs R w val) {bv : Int} (hb : CellB w R.bell bv) {t : Nat} (ht : t < 2 ^ 60) (h0 : val 0 = 2 * t) (h1 : val (2 + 2 * (t % R.N)) = t) (v : Int) :
    CallT Try.prog 37 #[.pointer (some ⟨R.p, 0, none⟩), .pointer none, .int .i64 v] w fun x W => x = .int .i8 1 ∧ PipeIs R W (vset (vset (vset val 0 (2 * t + 2)) (3 + 2 * (t % R.N)) v) (2 + 2 * (t % R.N)) (t + 1)) ∧ CellB W R.bell (IntKind.i64.wrap (bv + 1)) ∧ Keeps w W (fun b => R.own b ∨ b = R.bell) := by
  have hn := pnone_T h
  have ha := at_T h t (by omega)
  have hp0 := h.c0
  have hpl := h.modlt t
  have ht0 : w.cell? ⟨R.arr, 2 * (t % R.N), none⟩ = _ := h.place (by omega)
  have hl0 := load_T (h.cellB (k := 0) (by omega))
  have hl1 := load_T (h.cellB (k := 2 + 2 * (t % R.N)) (by omega))
  rw [h0] at hl0
  rw [h1] at hl1
  have hbit : bits .and .i64 (2 * (t : Int)) 1 = 0 := by
    have := bits_mask .i64 63 (by decide) wraps_i64 1 (by decide) (2 * (t : Int)) (by omega) (by omega)
    rw [show ((2 : Int) ^ 1 - 1) = 1 by decide] at this
    rw [this]; omega
  have hcas := cas_T (h.cellB (k := 0) (by omega))
  rw [h0] at hcas
  have hwt : IntKind.i64.wrap (t : Int) = t := wraps_i64 _ (by omega) (by omega)
  have hw1 : IntKind.i64.wrap ((t : Int) + 1) = t + 1 := wraps_i64 _ (by omega) (by omega)
  have hw2 : IntKind.i64.wrap (2 * (t : Int) + 2) = 2 * t + 2 := wraps_i64 _ (by omega) (by omega)
  have hwz : IntKind.i64.wrap 0 = 0 := by decide
  generalize hT : (t : Int) = ti at *
  refine callT_of Try.func37 rfl fun c' cs => ?_
  simp only [Try.ntmps37, List.size_toArray, List.length_cons, List.length_nil, Nat.reduceAdd, Nat.reduceSub, Array.replicate_succ, Array.replicate_zero, List.push_toArray, List.append_toArray, List.nil_append, List.cons_append]
  (repeat (first | (first | refine gt_seq ?_ | refine gt_block ?_ | refine gt_region_end ?_ | refine gt_skip ?_ | refine gt_inBlock ?_ | refine gt_label ?_ | refine gt_scope ?_ | refine gt_inScope ?_ | refine gt_exit rfl ?_) | (refine gt_region ?_; simp only [List.size_toArray, List.length_cons, List.length_nil, Nat.reduceAdd, Nat.zero_add, List.range, List.range.loop]) | (refine gt_op rfl (by rfl) (by rfl) (by decide) (fun dd K hK => ?_); go_simp; refine hK _ _ ?_; clear hK K; (try walk_nrm); (try simp only [at_at', alloc_at', setCell_at']); refine Gt.at ?_ _) | (refine gt_unwanted rfl (by rfl) ?_; try walk_nrm) | (first | refine gt_cond_t rfl ?_ | refine gt_cond_f rfl ?_)))
  refine gt_callf rfl (by rfl) (by decide) rfl rfl Try.func130 (by rfl) rfl (hn) (by simp [Act.eval]) ?_
  (rintro _ W' ⟨rfl, e'⟩; subst W'; walk_nrm; (repeat (first | (first | refine gt_seq ?_ | refine gt_block ?_ | refine gt_region_end ?_ | refine gt_skip ?_ | refine gt_inBlock ?_ | refine gt_label ?_ | refine gt_scope ?_ | refine gt_inScope ?_ | refine gt_exit rfl ?_) | (refine gt_region ?_; simp only [List.size_toArray, List.length_cons, List.length_nil, Nat.reduceAdd, Nat.zero_add, List.range, List.range.loop]) | (refine gt_op rfl (by rfl) (by rfl) (by decide) (fun dd K hK => ?_); go_simp; refine hK _ _ ?_; clear hK K; (try walk_nrm); (try simp only [at_at', alloc_at', setCell_at']); refine Gt.at ?_ _) | (refine gt_unwanted rfl (by rfl) ?_; try walk_nrm) | (first | refine gt_cond_t rfl ?_ | refine gt_cond_f rfl ?_))))
  refine gt_loop ?_
  (repeat (first | (first | refine gt_seq ?_ | refine gt_block ?_ | refine gt_region_end ?_ | refine gt_skip ?_ | refine gt_inBlock ?_ | refine gt_label ?_ | refine gt_scope ?_ | refine gt_inScope ?_ | refine gt_exit rfl ?_) | (refine gt_region ?_; simp only [List.size_toArray, List.length_cons, List.length_nil, Nat.reduceAdd, Nat.zero_add, List.range, List.range.loop]) | (refine gt_op rfl (by rfl) (by rfl) (by decide) (fun dd K hK => ?_); go_simp; refine hK _ _ ?_; clear hK K; (try walk_nrm); (try simp only [at_at', alloc_at', setCell_at']); refine Gt.at ?_ _) | (refine gt_unwanted rfl (by rfl) ?_; try walk_nrm) | (first | refine gt_cond_t rfl ?_ | refine gt_cond_f rfl ?_)))
  refine gt_callf rfl (by rfl) (by decide) rfl rfl Try.func33 (by rfl) rfl (hl0) (by simp [Act.eval]) ?_
  (rintro _ W' ⟨rfl, e'⟩; subst W'; walk_nrm; (repeat (first | (first | refine gt_seq ?_ | refine gt_block ?_ | refine gt_region_end ?_ | refine gt_skip ?_ | refine gt_inBlock ?_ | refine gt_label ?_ | refine gt_scope ?_ | refine gt_inScope ?_ | refine gt_exit rfl ?_) | (refine gt_region ?_; simp only [List.size_toArray, List.length_cons, List.length_nil, Nat.reduceAdd, Nat.zero_add, List.range, List.range.loop]) | (refine gt_op rfl (by rfl) (by rfl) (by decide) (fun dd K hK => ?_); go_simp; refine hK _ _ ?_; clear hK K; (try walk_nrm); (try simp only [at_at', alloc_at', setCell_at']); refine Gt.at ?_ _) | (refine gt_unwanted rfl (by rfl) ?_; try walk_nrm) | (first | refine gt_cond_t rfl ?_ | refine gt_cond_f rfl ?_))))
  refine gt_callf rfl (by rfl) (by decide) rfl rfl Try.func131 (by rfl) rfl (ha) (by simp [Act.eval]) ?_
  (rintro _ W' ⟨rfl, e'⟩; subst W'; walk_nrm; (repeat (first | (first | refine gt_seq ?_ | refine gt_block ?_ | refine gt_region_end ?_ | refine gt_skip ?_ | refine gt_inBlock ?_ | refine gt_label ?_ | refine gt_scope ?_ | refine gt_inScope ?_ | refine gt_exit rfl ?_) | (refine gt_region ?_; simp only [List.size_toArray, List.length_cons, List.length_nil, Nat.reduceAdd, Nat.zero_add, List.range, List.range.loop]) | (refine gt_op rfl (by rfl) (by rfl) (by decide) (fun dd K hK => ?_); go_simp; refine hK _ _ ?_; clear hK K; (try walk_nrm); (try simp only [at_at', alloc_at', setCell_at']); refine Gt.at ?_ _) | (refine gt_unwanted rfl (by rfl) ?_; try walk_nrm) | (first | refine gt_cond_t rfl ?_ | refine gt_cond_f rfl ?_))))
  refine gt_callf rfl (by rfl) (by decide) rfl rfl Try.func33 (by rfl) rfl (hl1) (by simp [Act.eval]) ?_
  (rintro _ W' ⟨rfl, e'⟩; subst W'; walk_nrm; (repeat (first | (first | refine gt_seq ?_ | refine gt_block ?_ | refine gt_region_end ?_ | refine gt_skip ?_ | refine gt_inBlock ?_ | refine gt_label ?_ | refine gt_scope ?_ | refine gt_inScope ?_ | refine gt_exit rfl ?_) | (refine gt_region ?_; simp only [List.size_toArray, List.length_cons, List.length_nil, Nat.reduceAdd, Nat.zero_add, List.range, List.range.loop]) | (refine gt_op rfl (by rfl) (by rfl) (by decide) (fun dd K hK => ?_); go_simp; refine hK _ _ ?_; clear hK K; (try walk_nrm); (try simp only [at_at', alloc_at', setCell_at']); refine Gt.at ?_ _) | (refine gt_unwanted rfl (by rfl) ?_; try walk_nrm) | (first | refine gt_cond_t rfl ?_ | refine gt_cond_f rfl ?_))))
  refine gt_callf rfl (by rfl) (by decide) rfl rfl Try.func103 (by rfl) rfl (hcas (2 * ti + 2)) (by simp [Act.eval]) ?_
  have hA := h.put (k := 0) (by omega) (2 * ti + 2)
  have hbA : CellB (w.setCell ⟨R.blk 0, 0, none⟩ (.int .i64 (2 * ti + 2))) R.bell bv := by
    unfold CellB; rw [heap_set_ne (fun e => by have := (h.blkIn 0 (by omega)).1; have := h.bellOut; omega)]; exact hb
  have hkA : Keeps w (w.setCell ⟨R.blk 0, 0, none⟩ (.int .i64 (2 * ti + 2))) (fun b => R.own b ∨ b = R.bell) := Keeps.set _ _ (.inl (h.blkIn 0 (by omega)))
  clear ha hp0 ht0 hl0 hl1 hcas hn
  rintro _ W' ⟨rfl, e'⟩; subst W'
  generalize w.setCell ⟨R.blk 0, 0, none⟩ (.int .i64 (2 * ti + 2)) = w1 at *
  walk_nrm
  have ha := at_T hA t (by omega)
  rw [hT] at ha
  have ht0 := hA.place (j := 2 * (t % R.N) + 1) (by omega)
  rw [show 2 + (2 * (t % R.N) + 1) = 3 + 2 * (t % R.N) by omega] at ht0
  (repeat (first | (first | refine gt_seq ?_ | refine gt_block ?_ | refine gt_region_end ?_ | refine gt_skip ?_ | refine gt_inBlock ?_ | refine gt_label ?_ | refine gt_scope ?_ | refine gt_inScope ?_ | refine gt_exit rfl ?_) | (refine gt_region ?_; simp only [List.size_toArray, List.length_cons, List.length_nil, Nat.reduceAdd, Nat.zero_add, List.range, List.range.loop]) | (refine gt_op rfl (by rfl) (by rfl) (by decide) (fun dd K hK => ?_); go_simp; refine hK _ _ ?_; clear hK K; (try walk_nrm); (try simp only [at_at', alloc_at', setCell_at']); refine Gt.at ?_ _) | (refine gt_unwanted rfl (by rfl) ?_; try walk_nrm) | (first | refine gt_cond_t rfl ?_ | refine gt_cond_f rfl ?_)))
  refine gt_callf rfl (by rfl) (by decide) rfl rfl Try.func131 (by rfl) rfl (ha) (by simp [Act.eval]) ?_
  clear ha
  (rintro _ W' ⟨rfl, e'⟩; subst W'; walk_nrm; (repeat (first | (first | refine gt_seq ?_ | refine gt_block ?_ | refine gt_region_end ?_ | refine gt_skip ?_ | refine gt_inBlock ?_ | refine gt_label ?_ | refine gt_scope ?_ | refine gt_inScope ?_ | refine gt_exit rfl ?_) | (refine gt_region ?_; simp only [List.size_toArray, List.length_cons, List.length_nil, Nat.reduceAdd, Nat.zero_add, List.range, List.range.loop]) | (refine gt_op rfl (by rfl) (by rfl) (by decide) (fun dd K hK => ?_); go_simp; refine hK _ _ ?_; clear hK K; (try walk_nrm); (try simp only [at_at', alloc_at', setCell_at']); refine Gt.at ?_ _) | (refine gt_unwanted rfl (by rfl) ?_; try walk_nrm) | (first | refine gt_cond_t rfl ?_ | refine gt_cond_f rfl ?_))))
  refine gt_callf rfl (by rfl) (by decide) rfl rfl Try.func64 (by rfl) rfl (store_T (hA.cellB (k := 3 + 2 * (t % R.N)) (by omega)) v) (by simp [Act.eval]) ?_
  have hB := hA.put (k := 3 + 2 * (t % R.N)) (by omega) v
  have hbB : CellB (w1.setCell ⟨R.blk (3 + 2 * (t % R.N)), 0, none⟩ (.int .i64 v)) R.bell bv := by
    unfold CellB; rw [heap_set_ne (fun e => by have := (h.blkIn (3 + 2 * (t % R.N)) (by omega)).1; have := h.bellOut; omega)]; exact hbA
  have hkB := hkA.trans (Keeps.set w1 (off := 0) (.int .i64 v) (S := fun b => R.own b ∨ b = R.bell) (b := R.blk (3 + 2 * (t % R.N))) (.inl (h.blkIn _ (by omega))))
  clear ht0 hA hbA hkA
  rintro _ W' e'; subst W'
  generalize w1.setCell ⟨R.blk (3 + 2 * (t % R.N)), 0, none⟩ (.int .i64 v) = w2 at *
  walk_nrm
  have ha := at_T hB t (by omega)
  rw [hT] at ha
  have ht0 := hB.place (j := 2 * (t % R.N)) (by omega)
  (repeat (first | (first | refine gt_seq ?_ | refine gt_block ?_ | refine gt_region_end ?_ | refine gt_skip ?_ | refine gt_inBlock ?_ | refine gt_label ?_ | refine gt_scope ?_ | refine gt_inScope ?_ | refine gt_exit rfl ?_) | (refine gt_region ?_; simp only [List.size_toArray, List.length_cons, List.length_nil, Nat.reduceAdd, Nat.zero_add, List.range, List.range.loop]) | (refine gt_op rfl (by rfl) (by rfl) (by decide) (fun dd K hK => ?_); go_simp; refine hK _ _ ?_; clear hK K; (try walk_nrm); (try simp only [at_at', alloc_at', setCell_at']); refine Gt.at ?_ _) | (refine gt_unwanted rfl (by rfl) ?_; try walk_nrm) | (first | refine gt_cond_t rfl ?_ | refine gt_cond_f rfl ?_)))
  refine gt_callf rfl (by rfl) (by decide) rfl rfl Try.func131 (by rfl) rfl (ha) (by simp [Act.eval]) ?_
  clear ha
  (rintro _ W' ⟨rfl, e'⟩; subst W'; walk_nrm; (repeat (first | (first | refine gt_seq ?_ | refine gt_block ?_ | refine gt_region_end ?_ | refine gt_skip ?_ | refine gt_inBlock ?_ | refine gt_label ?_ | refine gt_scope ?_ | refine gt_inScope ?_ | refine gt_exit rfl ?_) | (refine gt_region ?_; simp only [List.size_toArray, List.length_cons, List.length_nil, Nat.reduceAdd, Nat.zero_add, List.range, List.range.loop]) | (refine gt_op rfl (by rfl) (by rfl) (by decide) (fun dd K hK => ?_); go_simp; refine hK _ _ ?_; clear hK K; (try walk_nrm); (try simp only [at_at', alloc_at', setCell_at']); refine Gt.at ?_ _) | (refine gt_unwanted rfl (by rfl) ?_; try walk_nrm) | (first | refine gt_cond_t rfl ?_ | refine gt_cond_f rfl ?_))))
  refine gt_callf rfl (by rfl) (by decide) rfl rfl Try.func64 (by rfl) rfl (store_T (hB.cellB (k := 2 + 2 * (t % R.N)) (by omega)) (ti + 1)) (by simp [Act.eval]) ?_
  have hC := hB.put (k := 2 + 2 * (t % R.N)) (by omega) (ti + 1)
  have hbC : CellB (w2.setCell ⟨R.blk (2 + 2 * (t % R.N)), 0, none⟩ (.int .i64 (ti + 1))) R.bell bv := by
    unfold CellB; rw [heap_set_ne (fun e => by have := (h.blkIn (2 + 2 * (t % R.N)) (by omega)).1; have := h.bellOut; omega)]; exact hbB
  have hkC := hkB.trans (Keeps.set w2 (off := 0) (.int .i64 (ti + 1)) (S := fun b => R.own b ∨ b = R.bell) (b := R.blk (2 + 2 * (t % R.N))) (.inl (h.blkIn _ (by omega))))
  clear ht0 hB hbB hkB
  rintro _ W' e'; subst W'
  generalize w2.setCell ⟨R.blk (2 + 2 * (t % R.N)), 0, none⟩ (.int .i64 (ti + 1)) = w3 at *
  have hp2 := hC.c2
  walk_nrm
  (repeat (first | (first | refine gt_seq ?_ | refine gt_block ?_ | refine gt_region_end ?_ | refine gt_skip ?_ | refine gt_inBlock ?_ | refine gt_label ?_ | refine gt_scope ?_ | refine gt_inScope ?_ | refine gt_exit rfl ?_) | (refine gt_region ?_; simp only [List.size_toArray, List.length_cons, List.length_nil, Nat.reduceAdd, Nat.zero_add, List.range, List.range.loop]) | (refine gt_op rfl (by rfl) (by rfl) (by decide) (fun dd K hK => ?_); go_simp; refine hK _ _ ?_; clear hK K; (try walk_nrm); (try simp only [at_at', alloc_at', setCell_at']); refine Gt.at ?_ _) | (refine gt_unwanted rfl (by rfl) ?_; try walk_nrm) | (first | refine gt_cond_t rfl ?_ | refine gt_cond_f rfl ?_)))
  refine gt_callf rfl (by rfl) (by decide) rfl rfl Try.func102 (by rfl) rfl (add_T hbC 1) (by simp [Act.eval]) ?_
  have hD : PipeIs R (w3.setCell ⟨R.bell, 0, none⟩ (.int .i64 (IntKind.i64.wrap (bv + 1)))) _ := hC.kept (Keeps.set w3 (off := 0) _ (S := fun b => b = R.bell) rfl) (fun b hb e => by subst e; have := hb.1; have := h.bellOut; omega)
  have hbD := cellB_set hbC (IntKind.i64.wrap (bv + 1))
  have hkD := hkC.trans (Keeps.set w3 (off := 0) (.int .i64 (IntKind.i64.wrap (bv + 1))) (S := fun b => R.own b ∨ b = R.bell) (b := R.bell) (.inr rfl))
  clear hp2
  (rintro _ W' ⟨rfl, e'⟩; subst W'; walk_nrm; (repeat (first | (first | refine gt_seq ?_ | refine gt_block ?_ | refine gt_region_end ?_ | refine gt_skip ?_ | refine gt_inBlock ?_ | refine gt_label ?_ | refine gt_scope ?_ | refine gt_inScope ?_ | refine gt_exit rfl ?_) | (refine gt_region ?_; simp only [List.size_toArray, List.length_cons, List.length_nil, Nat.reduceAdd, Nat.zero_add, List.range, List.range.loop]) | (refine gt_op rfl (by rfl) (by rfl) (by decide) (fun dd K hK => ?_); go_simp; refine hK _ _ ?_; clear hK K; (try walk_nrm); (try simp only [at_at', alloc_at', setCell_at']); refine Gt.at ?_ _) | (refine gt_unwanted rfl (by rfl) ?_; try walk_nrm) | (first | refine gt_cond_t rfl ?_ | refine gt_cond_f rfl ?_))))
  exact gt_return rfl Try.func37 (resultsC_tmp rfl _)  ⟨rfl, hD, hbD, hkD⟩
theorem tryRecv_none_T {R : Pipe} {w : World} {val : Nat → Int} (h : PipeIs R w val) {k : Nat} (ht : k < 2 ^ 60) (h0 : val 0 = 2 * k) (h1 : val 1 = k) (h2 : val (2 + 2 * (k % R.N)) = k) :
    CallT Try.prog 165 #[.pointer (some ⟨R.p, 0, none⟩), .pointer none] w fun x W => x = .tuple #[.int .i64 0, .int .i8 2] ∧ W = w := by
  have hn := pnone_T h
  have ha := at_T h k (by omega)
  have hp0 := h.c0
  have hp1 := h.c1
  have hpl := h.modlt k
  have ht0 := h.place (j := 2 * (k % R.N)) (by omega)
  have hl0 := load_T (h.cellB (k := 0) (by omega))
  have hl1 := load_T (h.cellB (k := 1) (by omega))
  have hl2 := load_T (h.cellB (k := 2 + 2 * (k % R.N)) (by omega))
  rw [h0] at hl0
  rw [h1] at hl1
  rw [h2] at hl2
  have hw1 : IntKind.i64.wrap ((k : Int) + 1) = k + 1 := wraps_i64 _ (by omega) (by omega)
  have hw2 : IntKind.i64.wrap (2 * (k : Int)) = 2 * k := wraps_i64 _ (by omega) (by omega)
  have hw3 : IntKind.i64.wrap (2 * (k : Int) + 1) = 2 * k + 1 := wraps_i64 _ (by omega) (by omega)
  have hw4 : IntKind.i64.wrap ((k : Int) - (k + 1)) = -1 := by rw [show (k : Int) - (k + 1) = -1 by omega]; decide
  have hne : ¬ (2 * (k : Int) = 2 * k + 1) := by omega
  generalize hT : (k : Int) = ti at *
  clear h h0 h1 h2
  refine callT_of Try.func165 rfl fun c' cs => ?_
  simp only [Try.ntmps165, List.size_toArray, List.length_cons, List.length_nil, Nat.reduceAdd, Nat.reduceSub, Array.replicate_succ, Array.replicate_zero, List.push_toArray, List.append_toArray, List.nil_append, List.cons_append]
  (repeat (first | (first | refine gt_seq ?_ | refine gt_block ?_ | refine gt_region_end ?_ | refine gt_skip ?_ | refine gt_inBlock ?_ | refine gt_label ?_ | refine gt_scope ?_ | refine gt_inScope ?_ | refine gt_exit rfl ?_) | (refine gt_region ?_; simp only [List.size_toArray, List.length_cons, List.length_nil, Nat.reduceAdd, Nat.zero_add, List.range, List.range.loop]) | (refine gt_op rfl (by rfl) (by rfl) (by decide) (fun dd K hK => ?_); go_simp; refine hK _ _ ?_; clear hK K; (try walk_nrm); (try simp only [at_at', alloc_at', setCell_at']); refine Gt.at ?_ _) | (refine gt_unwanted rfl (by rfl) ?_; try walk_nrm) | (first | refine gt_cond_t rfl ?_ | refine gt_cond_f rfl ?_)))
  refine gt_callf rfl (by rfl) (by decide) rfl rfl Try.func130 (by rfl) rfl (hn) (by simp [Act.eval]) ?_
  (rintro _ W' ⟨rfl, e'⟩; subst W'; walk_nrm; (repeat (first | (first | refine gt_seq ?_ | refine gt_block ?_ | refine gt_region_end ?_ | refine gt_skip ?_ | refine gt_inBlock ?_ | refine gt_label ?_ | refine gt_scope ?_ | refine gt_inScope ?_ | refine gt_exit rfl ?_) | (refine gt_region ?_; simp only [List.size_toArray, List.length_cons, List.length_nil, Nat.reduceAdd, Nat.zero_add, List.range, List.range.loop]) | (refine gt_op rfl (by rfl) (by rfl) (by decide) (fun dd K hK => ?_); go_simp; refine hK _ _ ?_; clear hK K; (try walk_nrm); (try simp only [at_at', alloc_at', setCell_at']); refine Gt.at ?_ _) | (refine gt_unwanted rfl (by rfl) ?_; try walk_nrm) | (first | refine gt_cond_t rfl ?_ | refine gt_cond_f rfl ?_))))
  refine gt_loop ?_
  (repeat (first | (first | refine gt_seq ?_ | refine gt_block ?_ | refine gt_region_end ?_ | refine gt_skip ?_ | refine gt_inBlock ?_ | refine gt_label ?_ | refine gt_scope ?_ | refine gt_inScope ?_ | refine gt_exit rfl ?_) | (refine gt_region ?_; simp only [List.size_toArray, List.length_cons, List.length_nil, Nat.reduceAdd, Nat.zero_add, List.range, List.range.loop]) | (refine gt_op rfl (by rfl) (by rfl) (by decide) (fun dd K hK => ?_); go_simp; refine hK _ _ ?_; clear hK K; (try walk_nrm); (try simp only [at_at', alloc_at', setCell_at']); refine Gt.at ?_ _) | (refine gt_unwanted rfl (by rfl) ?_; try walk_nrm) | (first | refine gt_cond_t rfl ?_ | refine gt_cond_f rfl ?_)))
  refine gt_callf rfl (by rfl) (by decide) rfl rfl Try.func33 (by rfl) rfl (hl1) (by simp [Act.eval]) ?_
  (rintro _ W' ⟨rfl, e'⟩; subst W'; walk_nrm; (repeat (first | (first | refine gt_seq ?_ | refine gt_block ?_ | refine gt_region_end ?_ | refine gt_skip ?_ | refine gt_inBlock ?_ | refine gt_label ?_ | refine gt_scope ?_ | refine gt_inScope ?_ | refine gt_exit rfl ?_) | (refine gt_region ?_; simp only [List.size_toArray, List.length_cons, List.length_nil, Nat.reduceAdd, Nat.zero_add, List.range, List.range.loop]) | (refine gt_op rfl (by rfl) (by rfl) (by decide) (fun dd K hK => ?_); go_simp; refine hK _ _ ?_; clear hK K; (try walk_nrm); (try simp only [at_at', alloc_at', setCell_at']); refine Gt.at ?_ _) | (refine gt_unwanted rfl (by rfl) ?_; try walk_nrm) | (first | refine gt_cond_t rfl ?_ | refine gt_cond_f rfl ?_))))
  refine gt_callf rfl (by rfl) (by decide) rfl rfl Try.func131 (by rfl) rfl (ha) (by simp [Act.eval]) ?_
  (rintro _ W' ⟨rfl, e'⟩; subst W'; walk_nrm; (repeat (first | (first | refine gt_seq ?_ | refine gt_block ?_ | refine gt_region_end ?_ | refine gt_skip ?_ | refine gt_inBlock ?_ | refine gt_label ?_ | refine gt_scope ?_ | refine gt_inScope ?_ | refine gt_exit rfl ?_) | (refine gt_region ?_; simp only [List.size_toArray, List.length_cons, List.length_nil, Nat.reduceAdd, Nat.zero_add, List.range, List.range.loop]) | (refine gt_op rfl (by rfl) (by rfl) (by decide) (fun dd K hK => ?_); go_simp; refine hK _ _ ?_; clear hK K; (try walk_nrm); (try simp only [at_at', alloc_at', setCell_at']); refine Gt.at ?_ _) | (refine gt_unwanted rfl (by rfl) ?_; try walk_nrm) | (first | refine gt_cond_t rfl ?_ | refine gt_cond_f rfl ?_))))
  refine gt_callf rfl (by rfl) (by decide) rfl rfl Try.func33 (by rfl) rfl (hl2) (by simp [Act.eval]) ?_
  (rintro _ W' ⟨rfl, e'⟩; subst W'; walk_nrm; (repeat (first | (first | refine gt_seq ?_ | refine gt_block ?_ | refine gt_region_end ?_ | refine gt_skip ?_ | refine gt_inBlock ?_ | refine gt_label ?_ | refine gt_scope ?_ | refine gt_inScope ?_ | refine gt_exit rfl ?_) | (refine gt_region ?_; simp only [List.size_toArray, List.length_cons, List.length_nil, Nat.reduceAdd, Nat.zero_add, List.range, List.range.loop]) | (refine gt_op rfl (by rfl) (by rfl) (by decide) (fun dd K hK => ?_); go_simp; refine hK _ _ ?_; clear hK K; (try walk_nrm); (try simp only [at_at', alloc_at', setCell_at']); refine Gt.at ?_ _) | (refine gt_unwanted rfl (by rfl) ?_; try walk_nrm) | (first | refine gt_cond_t rfl ?_ | refine gt_cond_f rfl ?_))))
  refine gt_callf rfl (by rfl) (by decide) rfl rfl Try.func33 (by rfl) rfl (hl0) (by simp [Act.eval]) ?_
  (rintro _ W' ⟨rfl, e'⟩; subst W'; walk_nrm; (repeat (first | (first | refine gt_seq ?_ | refine gt_block ?_ | refine gt_region_end ?_ | refine gt_skip ?_ | refine gt_inBlock ?_ | refine gt_label ?_ | refine gt_scope ?_ | refine gt_inScope ?_ | refine gt_exit rfl ?_) | (refine gt_region ?_; simp only [List.size_toArray, List.length_cons, List.length_nil, Nat.reduceAdd, Nat.zero_add, List.range, List.range.loop]) | (refine gt_op rfl (by rfl) (by rfl) (by decide) (fun dd K hK => ?_); go_simp; refine hK _ _ ?_; clear hK K; (try walk_nrm); (try simp only [at_at', alloc_at', setCell_at']); refine Gt.at ?_ _) | (refine gt_unwanted rfl (by rfl) ?_; try walk_nrm) | (first | refine gt_cond_t rfl ?_ | refine gt_cond_f rfl ?_))))
  refine gt_cond_f (by simp [Act.eval]; omega) ?_
  (repeat (first | (first | refine gt_seq ?_ | refine gt_block ?_ | refine gt_region_end ?_ | refine gt_skip ?_ | refine gt_inBlock ?_ | refine gt_label ?_ | refine gt_scope ?_ | refine gt_inScope ?_ | refine gt_exit rfl ?_) | (refine gt_region ?_; simp only [List.size_toArray, List.length_cons, List.length_nil, Nat.reduceAdd, Nat.zero_add, List.range, List.range.loop]) | (refine gt_op rfl (by rfl) (by rfl) (by decide) (fun dd K hK => ?_); go_simp; refine hK _ _ ?_; clear hK K; (try walk_nrm); (try simp only [at_at', alloc_at', setCell_at']); refine Gt.at ?_ _) | (refine gt_unwanted rfl (by rfl) ?_; try walk_nrm) | (first | refine gt_cond_t rfl ?_ | refine gt_cond_f rfl ?_)))
  exact gt_return rfl Try.func165 (resultsC_tmp2 rfl _)  ⟨rfl, rfl⟩
set_option maxHeartbeats 1000000 in
theorem tryRecv_T {R : Pipe} {w : World} {val : Nat → Int} (h : PipeIs R w val) {bv : Int} (hb : CellB w R.bell bv) {k : Nat} (ht : k < 2 ^ 60) (h1 : val 1 = k) (h2 : val (2 + 2 * (k % R.N)) = k + 1) :
    CallT Try.prog 165 #[.pointer (some ⟨R.p, 0, none⟩), .pointer none] w fun x W => x = .tuple #[.int .i64 (val (3 + 2 * (k % R.N))), .int .i8 1] ∧ PipeIs R W (vset (vset val 1 (k + 1)) (2 + 2 * (k % R.N)) (k + R.N)) ∧ CellB W R.bell (IntKind.i64.wrap (bv + 1)) ∧ Keeps w W (fun b => R.own b ∨ b = R.bell) := by
  have hn := pnone_T h
  have ha := at_T h k (by omega)
  have hp1 := h.c1
  have hpl := h.modlt k
  have ht0 := h.place (j := 2 * (k % R.N)) (by omega)
  have hl1 := load_T (h.cellB (k := 1) (by omega))
  have hl2 := load_T (h.cellB (k := 2 + 2 * (k % R.N)) (by omega))
  have hcas := cas_T (h.cellB (k := 1) (by omega))
  rw [h1] at hl1 hcas
  rw [h2] at hl2
  have hN : R.N ≤ 4096 := by rw [h.pow]; exact Nat.le_trans (Nat.pow_le_pow_right (by decide) h.m12) (by decide)
  have hw1 : IntKind.i64.wrap ((k : Int) + 1) = k + 1 := wraps_i64 _ (by omega) (by omega)
  have hw3 : IntKind.i64.wrap ((k : Int) + (R.N : Int)) = k + R.N := wraps_i64 _ (by omega) (by omega)
  have hw4 : IntKind.i64.wrap ((k : Int) + 1 - (k + 1)) = 0 := by rw [show (k : Int) + 1 - (k + 1) = 0 by omega]; decide
  have hwz : IntKind.i64.wrap 0 = 0 := by decide
  generalize hT : (k : Int) = ti at *
  refine callT_of Try.func165 rfl fun c' cs => ?_
  simp only [Try.ntmps165, List.size_toArray, List.length_cons, List.length_nil, Nat.reduceAdd, Nat.reduceSub, Array.replicate_succ, Array.replicate_zero, List.push_toArray, List.append_toArray, List.nil_append, List.cons_append]
  (repeat (first | (first | refine gt_seq ?_ | refine gt_block ?_ | refine gt_region_end ?_ | refine gt_skip ?_ | refine gt_inBlock ?_ | refine gt_label ?_ | refine gt_scope ?_ | refine gt_inScope ?_ | refine gt_exit rfl ?_) | (refine gt_region ?_; simp only [List.size_toArray, List.length_cons, List.length_nil, Nat.reduceAdd, Nat.zero_add, List.range, List.range.loop]) | (refine gt_op rfl (by rfl) (by rfl) (by decide) (fun dd K hK => ?_); go_simp; refine hK _ _ ?_; clear hK K; (try walk_nrm); (try simp only [at_at', alloc_at', setCell_at']); refine Gt.at ?_ _) | (refine gt_unwanted rfl (by rfl) ?_; try walk_nrm) | (first | refine gt_cond_t rfl ?_ | refine gt_cond_f rfl ?_)))
  refine gt_callf rfl (by rfl) (by decide) rfl rfl Try.func130 (by rfl) rfl (hn) (by simp [Act.eval]) ?_
  (rintro _ W' ⟨rfl, e'⟩; subst W'; walk_nrm; (repeat (first | (first | refine gt_seq ?_ | refine gt_block ?_ | refine gt_region_end ?_ | refine gt_skip ?_ | refine gt_inBlock ?_ | refine gt_label ?_ | refine gt_scope ?_ | refine gt_inScope ?_ | refine gt_exit rfl ?_) | (refine gt_region ?_; simp only [List.size_toArray, List.length_cons, List.length_nil, Nat.reduceAdd, Nat.zero_add, List.range, List.range.loop]) | (refine gt_op rfl (by rfl) (by rfl) (by decide) (fun dd K hK => ?_); go_simp; refine hK _ _ ?_; clear hK K; (try walk_nrm); (try simp only [at_at', alloc_at', setCell_at']); refine Gt.at ?_ _) | (refine gt_unwanted rfl (by rfl) ?_; try walk_nrm) | (first | refine gt_cond_t rfl ?_ | refine gt_cond_f rfl ?_))))
  refine gt_loop ?_
  (repeat (first | (first | refine gt_seq ?_ | refine gt_block ?_ | refine gt_region_end ?_ | refine gt_skip ?_ | refine gt_inBlock ?_ | refine gt_label ?_ | refine gt_scope ?_ | refine gt_inScope ?_ | refine gt_exit rfl ?_) | (refine gt_region ?_; simp only [List.size_toArray, List.length_cons, List.length_nil, Nat.reduceAdd, Nat.zero_add, List.range, List.range.loop]) | (refine gt_op rfl (by rfl) (by rfl) (by decide) (fun dd K hK => ?_); go_simp; refine hK _ _ ?_; clear hK K; (try walk_nrm); (try simp only [at_at', alloc_at', setCell_at']); refine Gt.at ?_ _) | (refine gt_unwanted rfl (by rfl) ?_; try walk_nrm) | (first | refine gt_cond_t rfl ?_ | refine gt_cond_f rfl ?_)))
  refine gt_callf rfl (by rfl) (by decide) rfl rfl Try.func33 (by rfl) rfl (hl1) (by simp [Act.eval]) ?_
  (rintro _ W' ⟨rfl, e'⟩; subst W'; walk_nrm; (repeat (first | (first | refine gt_seq ?_ | refine gt_block ?_ | refine gt_region_end ?_ | refine gt_skip ?_ | refine gt_inBlock ?_ | refine gt_label ?_ | refine gt_scope ?_ | refine gt_inScope ?_ | refine gt_exit rfl ?_) | (refine gt_region ?_; simp only [List.size_toArray, List.length_cons, List.length_nil, Nat.reduceAdd, Nat.zero_add, List.range, List.range.loop]) | (refine gt_op rfl (by rfl) (by rfl) (by decide) (fun dd K hK => ?_); go_simp; refine hK _ _ ?_; clear hK K; (try walk_nrm); (try simp only [at_at', alloc_at', setCell_at']); refine Gt.at ?_ _) | (refine gt_unwanted rfl (by rfl) ?_; try walk_nrm) | (first | refine gt_cond_t rfl ?_ | refine gt_cond_f rfl ?_))))
  refine gt_callf rfl (by rfl) (by decide) rfl rfl Try.func131 (by rfl) rfl (ha) (by simp [Act.eval]) ?_
  (rintro _ W' ⟨rfl, e'⟩; subst W'; walk_nrm; (repeat (first | (first | refine gt_seq ?_ | refine gt_block ?_ | refine gt_region_end ?_ | refine gt_skip ?_ | refine gt_inBlock ?_ | refine gt_label ?_ | refine gt_scope ?_ | refine gt_inScope ?_ | refine gt_exit rfl ?_) | (refine gt_region ?_; simp only [List.size_toArray, List.length_cons, List.length_nil, Nat.reduceAdd, Nat.zero_add, List.range, List.range.loop]) | (refine gt_op rfl (by rfl) (by rfl) (by decide) (fun dd K hK => ?_); go_simp; refine hK _ _ ?_; clear hK K; (try walk_nrm); (try simp only [at_at', alloc_at', setCell_at']); refine Gt.at ?_ _) | (refine gt_unwanted rfl (by rfl) ?_; try walk_nrm) | (first | refine gt_cond_t rfl ?_ | refine gt_cond_f rfl ?_))))
  refine gt_callf rfl (by rfl) (by decide) rfl rfl Try.func33 (by rfl) rfl (hl2) (by simp [Act.eval]) ?_
  (rintro _ W' ⟨rfl, e'⟩; subst W'; walk_nrm; (repeat (first | (first | refine gt_seq ?_ | refine gt_block ?_ | refine gt_region_end ?_ | refine gt_skip ?_ | refine gt_inBlock ?_ | refine gt_label ?_ | refine gt_scope ?_ | refine gt_inScope ?_ | refine gt_exit rfl ?_) | (refine gt_region ?_; simp only [List.size_toArray, List.length_cons, List.length_nil, Nat.reduceAdd, Nat.zero_add, List.range, List.range.loop]) | (refine gt_op rfl (by rfl) (by rfl) (by decide) (fun dd K hK => ?_); go_simp; refine hK _ _ ?_; clear hK K; (try walk_nrm); (try simp only [at_at', alloc_at', setCell_at']); refine Gt.at ?_ _) | (refine gt_unwanted rfl (by rfl) ?_; try walk_nrm) | (first | refine gt_cond_t rfl ?_ | refine gt_cond_f rfl ?_))))
  refine gt_callf rfl (by rfl) (by decide) rfl rfl Try.func103 (by rfl) rfl (hcas (ti + 1)) (by simp [Act.eval]) ?_
  have hA := h.put (k := 1) (by omega) (ti + 1)
  have hbA : CellB (w.setCell ⟨R.blk 1, 0, none⟩ (.int .i64 (ti + 1))) R.bell bv := by
    unfold CellB; rw [heap_set_ne (fun e => by have := (h.blkIn 1 (by omega)).1; have := h.bellOut; omega)]; exact hb
  have hkA : Keeps w (w.setCell ⟨R.blk 1, 0, none⟩ (.int .i64 (ti + 1))) (fun b => R.own b ∨ b = R.bell) := Keeps.set _ _ (.inl (h.blkIn 1 (by omega)))
  clear ha hp1 ht0 hl1 hl2 hcas hn
  rintro _ W' ⟨rfl, e'⟩; subst W'
  generalize w.setCell ⟨R.blk 1, 0, none⟩ (.int .i64 (ti + 1)) = w1 at *
  walk_nrm
  have ha := at_T hA k (by omega)
  rw [hT] at ha
  have ht0 := hA.place (j := 2 * (k % R.N) + 1) (by omega)
  rw [show 2 + (2 * (k % R.N) + 1) = 3 + 2 * (k % R.N) by omega] at ht0
  have hlv := load_T (hA.cellB (k := 3 + 2 * (k % R.N)) (by omega))
  rw [show vset val 1 (ti + 1) (3 + 2 * (k % R.N)) = val (3 + 2 * (k % R.N)) from if_neg (by omega)] at hlv
  (repeat (first | (first | refine gt_seq ?_ | refine gt_block ?_ | refine gt_region_end ?_ | refine gt_skip ?_ | refine gt_inBlock ?_ | refine gt_label ?_ | refine gt_scope ?_ | refine gt_inScope ?_ | refine gt_exit rfl ?_) | (refine gt_region ?_; simp only [List.size_toArray, List.length_cons, List.length_nil, Nat.reduceAdd, Nat.zero_add, List.range, List.range.loop]) | (refine gt_op rfl (by rfl) (by rfl) (by decide) (fun dd K hK => ?_); go_simp; refine hK _ _ ?_; clear hK K; (try walk_nrm); (try simp only [at_at', alloc_at', setCell_at']); refine Gt.at ?_ _) | (refine gt_unwanted rfl (by rfl) ?_; try walk_nrm) | (first | refine gt_cond_t rfl ?_ | refine gt_cond_f rfl ?_)))
  refine gt_callf rfl (by rfl) (by decide) rfl rfl Try.func131 (by rfl) rfl (ha) (by simp [Act.eval]) ?_
  (rintro _ W' ⟨rfl, e'⟩; subst W'; walk_nrm; (repeat (first | (first | refine gt_seq ?_ | refine gt_block ?_ | refine gt_region_end ?_ | refine gt_skip ?_ | refine gt_inBlock ?_ | refine gt_label ?_ | refine gt_scope ?_ | refine gt_inScope ?_ | refine gt_exit rfl ?_) | (refine gt_region ?_; simp only [List.size_toArray, List.length_cons, List.length_nil, Nat.reduceAdd, Nat.zero_add, List.range, List.range.loop]) | (refine gt_op rfl (by rfl) (by rfl) (by decide) (fun dd K hK => ?_); go_simp; refine hK _ _ ?_; clear hK K; (try walk_nrm); (try simp only [at_at', alloc_at', setCell_at']); refine Gt.at ?_ _) | (refine gt_unwanted rfl (by rfl) ?_; try walk_nrm) | (first | refine gt_cond_t rfl ?_ | refine gt_cond_f rfl ?_))))
  refine gt_callf rfl (by rfl) (by decide) rfl rfl Try.func33 (by rfl) rfl (hlv) (by simp [Act.eval]) ?_
  (rintro _ W' ⟨rfl, e'⟩; subst W'; walk_nrm; (repeat (first | (first | refine gt_seq ?_ | refine gt_block ?_ | refine gt_region_end ?_ | refine gt_skip ?_ | refine gt_inBlock ?_ | refine gt_label ?_ | refine gt_scope ?_ | refine gt_inScope ?_ | refine gt_exit rfl ?_) | (refine gt_region ?_; simp only [List.size_toArray, List.length_cons, List.length_nil, Nat.reduceAdd, Nat.zero_add, List.range, List.range.loop]) | (refine gt_op rfl (by rfl) (by rfl) (by decide) (fun dd K hK => ?_); go_simp; refine hK _ _ ?_; clear hK K; (try walk_nrm); (try simp only [at_at', alloc_at', setCell_at']); refine Gt.at ?_ _) | (refine gt_unwanted rfl (by rfl) ?_; try walk_nrm) | (first | refine gt_cond_t rfl ?_ | refine gt_cond_f rfl ?_))))
  clear ht0
  have hI := di_T
  have ht0 := hA.place (j := 2 * (k % R.N)) (by omega)
  have hp3 := hA.c3
  (refine gt_region_held (fun x => x.cell? ⟨R.p, 3, none⟩ = some (.slice (some ⟨R.arr, 0, none⟩) R.N R.cap) ∧ x.cell? ⟨R.arr, 2 * (k % R.N), none⟩ = some (.pointer (some ⟨R.blk (2 + 2 * (k % R.N)), 0, none⟩))) [0, 1, 6, 7, 8, 9, 10, 11, 12, 13, 3, 4, 5] (by decide) (by first | kernel_rfl | rfl) (fun nn => ?_); simp only [List.size_toArray, List.length_cons, List.length_nil, Nat.reduceAdd, Nat.zero_add])
  have hSat : ∀ (x : World) (d : Nat), (x.cell? ⟨R.p, 3, none⟩ = some (.slice (some ⟨R.arr, 0, none⟩) R.N R.cap) ∧ x.cell? ⟨R.arr, 2 * (k % R.N), none⟩ = some (.pointer (some ⟨R.blk (2 + 2 * (k % R.N)), 0, none⟩))) → ((x.at d).cell? ⟨R.p, 3, none⟩ = some (.slice (some ⟨R.arr, 0, none⟩) R.N R.cap) ∧ (x.at d).cell? ⟨R.arr, 2 * (k % R.N), none⟩ = some (.pointer (some ⟨R.blk (2 + 2 * (k % R.N)), 0, none⟩))) := fun _ _ h => h
  have hS := And.intro hp3 ht0
  (refine anyZ_take hSat (by intro _ _ _ _ x; exact x.at _) (i := 0) rfl (by first | kernel_rfl | decide +kernel) (by rfl) (by first | kernel_rfl | decide +kernel) (by first | kernel_rfl | decide +kernel) (yieldsZ_rd hI (by rfl) (fun w hw K hK => by (try simp only [Sp] at hw); (try obtain ⟨hw1, hw2⟩ := hw); (try obtain ⟨hw3, hw4⟩ := hw2); (try obtain ⟨hw5, hw6⟩ := hw4); go_simp; exact hK) (fun w hw e he => by (try simp only [Sp] at hw); (try obtain ⟨hw1, hw2⟩ := hw); (try obtain ⟨hw3, hw4⟩ := hw2); (try obtain ⟨hw5, hw6⟩ := hw4); simp [go_sem, *] at he <;> (subst he; exact ⟨_, _, _, rfl, by assumption⟩))) (by assumption) ?_; (try walk_nrm))
  (refine anyZ_take hSat (by intro _ _ _ _ x; exact x.at _) (i := 1) rfl (by first | kernel_rfl | decide +kernel) (by rfl) (by first | kernel_rfl | decide +kernel) (by first | kernel_rfl | decide +kernel) (yieldsZ_rd hI (by rfl) (fun w hw K hK => by (try simp only [Sp] at hw); (try obtain ⟨hw1, hw2⟩ := hw); (try obtain ⟨hw3, hw4⟩ := hw2); (try obtain ⟨hw5, hw6⟩ := hw4); go_simp; exact hK) (fun w hw e he => by (try simp only [Sp] at hw); (try obtain ⟨hw1, hw2⟩ := hw); (try obtain ⟨hw3, hw4⟩ := hw2); (try obtain ⟨hw5, hw6⟩ := hw4); simp [go_sem, *] at he <;> (subst he; exact ⟨_, _, _, rfl, by assumption⟩))) (by assumption) ?_; (try walk_nrm))
  (refine anyZ_take hSat (by intro _ _ _ _ x; exact x.at _) (i := 6) rfl (by first | kernel_rfl | decide +kernel) (by rfl) (by first | kernel_rfl | decide +kernel) (by first | kernel_rfl | decide +kernel) (yieldsZ_rd hI (by rfl) (fun w hw K hK => by (try simp only [Sp] at hw); (try obtain ⟨hw1, hw2⟩ := hw); (try obtain ⟨hw3, hw4⟩ := hw2); (try obtain ⟨hw5, hw6⟩ := hw4); go_simp; exact hK) (fun w hw e he => by (try simp only [Sp] at hw); (try obtain ⟨hw1, hw2⟩ := hw); (try obtain ⟨hw3, hw4⟩ := hw2); (try obtain ⟨hw5, hw6⟩ := hw4); simp [go_sem, *] at he <;> (subst he; exact ⟨_, _, _, rfl, by assumption⟩))) (by assumption) ?_; (try walk_nrm))
  (refine anyZ_take hSat (by intro _ _ _ _ x; exact x.at _) (i := 7) rfl (by first | kernel_rfl | decide +kernel) (by rfl) (by first | kernel_rfl | decide +kernel) (by first | kernel_rfl | decide +kernel) (yieldsZ_rd hI (by rfl) (fun w hw K hK => by (try simp only [Sp] at hw); (try obtain ⟨hw1, hw2⟩ := hw); (try obtain ⟨hw3, hw4⟩ := hw2); (try obtain ⟨hw5, hw6⟩ := hw4); go_simp; exact hK) (fun w hw e he => by (try simp only [Sp] at hw); (try obtain ⟨hw1, hw2⟩ := hw); (try obtain ⟨hw3, hw4⟩ := hw2); (try obtain ⟨hw5, hw6⟩ := hw4); simp [go_sem, *] at he <;> (subst he; exact ⟨_, _, _, rfl, by assumption⟩))) (by assumption) ?_; (try walk_nrm))
  (refine anyZ_take hSat (by intro _ _ _ _ x; exact x.at _) (i := 8) rfl (by first | kernel_rfl | decide +kernel) (by rfl) (by first | kernel_rfl | decide +kernel) (by first | kernel_rfl | decide +kernel) (yieldsZ_rd hI (by rfl) (fun w hw K hK => by (try simp only [Sp] at hw); (try obtain ⟨hw1, hw2⟩ := hw); (try obtain ⟨hw3, hw4⟩ := hw2); (try obtain ⟨hw5, hw6⟩ := hw4); go_simp; exact hK) (fun w hw e he => by (try simp only [Sp] at hw); (try obtain ⟨hw1, hw2⟩ := hw); (try obtain ⟨hw3, hw4⟩ := hw2); (try obtain ⟨hw5, hw6⟩ := hw4); simp [go_sem, *] at he <;> (subst he; exact ⟨_, _, _, rfl, by assumption⟩))) (by assumption) ?_; (try walk_nrm))
  (refine anyZ_take hSat (by intro _ _ _ _ x; exact x.at _) (i := 9) rfl (by first | kernel_rfl | decide +kernel) (by rfl) (by first | kernel_rfl | decide +kernel) (by first | kernel_rfl | decide +kernel) (yieldsZ_rd hI (by rfl) (fun w hw K hK => by (try simp only [Sp] at hw); (try obtain ⟨hw1, hw2⟩ := hw); (try obtain ⟨hw3, hw4⟩ := hw2); (try obtain ⟨hw5, hw6⟩ := hw4); go_simp; exact hK) (fun w hw e he => by (try simp only [Sp] at hw); (try obtain ⟨hw1, hw2⟩ := hw); (try obtain ⟨hw3, hw4⟩ := hw2); (try obtain ⟨hw5, hw6⟩ := hw4); simp [go_sem, *] at he <;> (subst he; exact ⟨_, _, _, rfl, by assumption⟩))) (by assumption) ?_; (try walk_nrm))
  (refine anyZ_take hSat (by intro _ _ _ _ x; exact x.at _) (i := 10) rfl (by first | kernel_rfl | decide +kernel) (by rfl) (by first | kernel_rfl | decide +kernel) (by first | kernel_rfl | decide +kernel) (yieldsZ_rd hI (by rfl) (fun w hw K hK => by (try simp only [Sp] at hw); (try obtain ⟨hw1, hw2⟩ := hw); (try obtain ⟨hw3, hw4⟩ := hw2); (try obtain ⟨hw5, hw6⟩ := hw4); go_simp; exact hK) (fun w hw e he => by (try simp only [Sp] at hw); (try obtain ⟨hw1, hw2⟩ := hw); (try obtain ⟨hw3, hw4⟩ := hw2); (try obtain ⟨hw5, hw6⟩ := hw4); simp [go_sem, *] at he <;> (subst he; exact ⟨_, _, _, rfl, by assumption⟩))) (by assumption) ?_; (try walk_nrm))
  (refine anyZ_take hSat (by intro _ _ _ _ x; exact x.at _) (i := 11) rfl (by first | kernel_rfl | decide +kernel) (by rfl) (by first | kernel_rfl | decide +kernel) (by first | kernel_rfl | decide +kernel) (yieldsZ_rd hI (by rfl) (fun w hw K hK => by (try simp only [Sp] at hw); (try obtain ⟨hw1, hw2⟩ := hw); (try obtain ⟨hw3, hw4⟩ := hw2); (try obtain ⟨hw5, hw6⟩ := hw4); go_simp; exact hK) (fun w hw e he => by (try simp only [Sp] at hw); (try obtain ⟨hw1, hw2⟩ := hw); (try obtain ⟨hw3, hw4⟩ := hw2); (try obtain ⟨hw5, hw6⟩ := hw4); simp [go_sem, *] at he <;> (subst he; exact ⟨_, _, _, rfl, by assumption⟩))) (by assumption) ?_; (try walk_nrm))
  (refine anyZ_take hSat (by intro _ _ _ _ x; exact x.at _) (i := 12) rfl (by first | kernel_rfl | decide +kernel) (by rfl) (by first | kernel_rfl | decide +kernel) (by first | kernel_rfl | decide +kernel) (yieldsZ_rd hI (by rfl) (fun w hw K hK => by (try simp only [Sp] at hw); (try obtain ⟨hw1, hw2⟩ := hw); (try obtain ⟨hw3, hw4⟩ := hw2); (try obtain ⟨hw5, hw6⟩ := hw4); go_simp; exact hK) (fun w hw e he => by (try simp only [Sp] at hw); (try obtain ⟨hw1, hw2⟩ := hw); (try obtain ⟨hw3, hw4⟩ := hw2); (try obtain ⟨hw5, hw6⟩ := hw4); simp [go_sem, *] at he <;> (subst he; exact ⟨_, _, _, rfl, by assumption⟩))) (by assumption) ?_; (try walk_nrm))
  (refine anyZ_take hSat (by intro _ _ _ _ x; exact x.at _) (i := 13) rfl (by first | kernel_rfl | decide +kernel) (by rfl) (by first | kernel_rfl | decide +kernel) (by first | kernel_rfl | decide +kernel) (yieldsZ_rd hI (by rfl) (fun w hw K hK => by (try simp only [Sp] at hw); (try obtain ⟨hw1, hw2⟩ := hw); (try obtain ⟨hw3, hw4⟩ := hw2); (try obtain ⟨hw5, hw6⟩ := hw4); go_simp; exact hK) (fun w hw e he => by (try simp only [Sp] at hw); (try obtain ⟨hw1, hw2⟩ := hw); (try obtain ⟨hw3, hw4⟩ := hw2); (try obtain ⟨hw5, hw6⟩ := hw4); simp [go_sem, *] at he <;> (subst he; exact ⟨_, _, _, rfl, by assumption⟩))) (by assumption) ?_; (try walk_nrm))
  (refine anyZ_only (i := 2) (by first | kernel_rfl | decide +kernel) ?_; refine opZ_call rfl (by rfl) rfl rfl Try.func131 (by rfl) rfl (CallT.toZ (ha) _) (by simp [Act.eval]) ?_)
  (rintro _ W' _ ⟨rfl, e'⟩ dd; subst W'; walk_nrm; refine ⟨fun _ => (by assumption), AnyZ.at hSat (by intro _ _ _ _ x; exact x.at _) _ _ _ _ _ _ ?_⟩)
  (refine anyZ_take hSat (by intro _ _ _ _ x; exact x.at _) (i := 3) rfl (by first | kernel_rfl | decide +kernel) (by rfl) (by first | kernel_rfl | decide +kernel) (by first | kernel_rfl | decide +kernel) (yieldsZ_rd hI (by rfl) (fun w hw K hK => by (try simp only [Sp] at hw); (try obtain ⟨hw1, hw2⟩ := hw); (try obtain ⟨hw3, hw4⟩ := hw2); (try obtain ⟨hw5, hw6⟩ := hw4); go_simp; exact hK) (fun w hw e he => by (try simp only [Sp] at hw); (try obtain ⟨hw1, hw2⟩ := hw); (try obtain ⟨hw3, hw4⟩ := hw2); (try obtain ⟨hw5, hw6⟩ := hw4); simp [go_sem, *] at he <;> (subst he; exact ⟨_, _, _, rfl, by assumption⟩))) (by assumption) ?_; (try walk_nrm))
  (refine anyZ_take hSat (by intro _ _ _ _ x; exact x.at _) (i := 4) rfl (by first | kernel_rfl | decide +kernel) (by rfl) (by first | kernel_rfl | decide +kernel) (by first | kernel_rfl | decide +kernel) (yieldsZ_rd hI (by rfl) (fun w hw K hK => by (try simp only [Sp] at hw); (try obtain ⟨hw1, hw2⟩ := hw); (try obtain ⟨hw3, hw4⟩ := hw2); (try obtain ⟨hw5, hw6⟩ := hw4); go_simp; exact hK) (fun w hw e he => by (try simp only [Sp] at hw); (try obtain ⟨hw1, hw2⟩ := hw); (try obtain ⟨hw3, hw4⟩ := hw2); (try obtain ⟨hw5, hw6⟩ := hw4); simp [go_sem, *] at he <;> (subst he; exact ⟨_, _, _, rfl, by assumption⟩))) (by assumption) ?_; (try walk_nrm))
  (refine anyZ_take hSat (by intro _ _ _ _ x; exact x.at _) (i := 5) rfl (by first | kernel_rfl | decide +kernel) (by rfl) (by first | kernel_rfl | decide +kernel) (by first | kernel_rfl | decide +kernel) (yieldsZ_rd hI (by rfl) (fun w hw K hK => by (try simp only [Sp] at hw); (try obtain ⟨hw1, hw2⟩ := hw); (try obtain ⟨hw3, hw4⟩ := hw2); (try obtain ⟨hw5, hw6⟩ := hw4); go_simp; exact hK) (fun w hw e he => by (try simp only [Sp] at hw); (try obtain ⟨hw1, hw2⟩ := hw); (try obtain ⟨hw3, hw4⟩ := hw2); (try obtain ⟨hw5, hw6⟩ := hw4); simp [go_sem, *] at he <;> (subst he; exact ⟨_, _, _, rfl, by assumption⟩))) (by assumption) ?_; (try walk_nrm))
  (refine anyZ_only (i := 14) (by first | kernel_rfl | decide +kernel) ?_; refine opZ_call rfl (by rfl) rfl rfl Try.func64 (by rfl) rfl (CallT.toZ (store_T (hA.cellB (k := 2 + 2 * (k % R.N)) (by omega)) (ti + R.N)) _) (by simp [Act.eval]) ?_)
  have hB := hA.put (k := 2 + 2 * (k % R.N)) (by omega) (ti + R.N)
  have hbB : CellB (w1.setCell ⟨R.blk (2 + 2 * (k % R.N)), 0, none⟩ (.int .i64 (ti + R.N))) R.bell bv := by
    unfold CellB; rw [heap_set_ne (fun e => by have := (h.blkIn (2 + 2 * (k % R.N)) (by omega)).1; have := h.bellOut; omega)]; exact hbA
  have hkB := hkA.trans (Keeps.set w1 (off := 0) (.int .i64 (ti + R.N)) (S := fun b => R.own b ∨ b = R.bell) (b := R.blk (2 + 2 * (k % R.N))) (.inl (h.blkIn _ (by omega))))
  clear ht0 hA hbA hkA hS hp3 ha hlv
  rintro _ W' _ e' dd; subst W'
  generalize w1.setCell ⟨R.blk (2 + 2 * (k % R.N)), 0, none⟩ (.int .i64 (ti + R.N)) = w2 at *
  walk_nrm
  refine ⟨fun _ => ⟨hB.c3, hB.place (j := 2 * (k % R.N)) (by omega)⟩, AnyZ.at hSat (by intro _ _ _ _ x; exact x.at _) _ _ _ _ _ _ ?_⟩
  refine anyZ_done (by first | kernel_rfl | decide +kernel) ?_ _
  have hp2 := hB.c2
  clear hSat
  (repeat (first | (first | refine gt_seq ?_ | refine gt_block ?_ | refine gt_region_end ?_ | refine gt_skip ?_ | refine gt_inBlock ?_ | refine gt_label ?_ | refine gt_scope ?_ | refine gt_inScope ?_ | refine gt_exit rfl ?_) | (refine gt_region ?_; simp only [List.size_toArray, List.length_cons, List.length_nil, Nat.reduceAdd, Nat.zero_add, List.range, List.range.loop]) | (refine gt_op rfl (by rfl) (by rfl) (by decide) (fun dd K hK => ?_); go_simp; refine hK _ _ ?_; clear hK K; (try walk_nrm); (try simp only [at_at', alloc_at', setCell_at']); refine Gt.at ?_ _) | (refine gt_unwanted rfl (by rfl) ?_; try walk_nrm) | (first | refine gt_cond_t rfl ?_ | refine gt_cond_f rfl ?_)))
  refine gt_callf rfl (by rfl) (by decide) rfl rfl Try.func102 (by rfl) rfl (add_T hbB 1) (by simp [Act.eval]) ?_
  have hD : PipeIs R (w2.setCell ⟨R.bell, 0, none⟩ (.int .i64 (IntKind.i64.wrap (bv + 1)))) _ := hB.kept (Keeps.set w2 (off := 0) _ (S := fun b => b = R.bell) rfl) (fun b hb e => by subst e; have := hb.1; have := h.bellOut; omega)
  have hbD := cellB_set hbB (IntKind.i64.wrap (bv + 1))
  have hkD := hkB.trans (Keeps.set w2 (off := 0) (.int .i64 (IntKind.i64.wrap (bv + 1))) (S := fun b => R.own b ∨ b = R.bell) (b := R.bell) (.inr rfl))
  clear hp2
  (rintro _ W' ⟨rfl, e'⟩; subst W'; walk_nrm; (repeat (first | (first | refine gt_seq ?_ | refine gt_block ?_ | refine gt_region_end ?_ | refine gt_skip ?_ | refine gt_inBlock ?_ | refine gt_label ?_ | refine gt_scope ?_ | refine gt_inScope ?_ | refine gt_exit rfl ?_) | (refine gt_region ?_; simp only [List.size_toArray, List.length_cons, List.length_nil, Nat.reduceAdd, Nat.zero_add, List.range, List.range.loop]) | (refine gt_op rfl (by rfl) (by rfl) (by decide) (fun dd K hK => ?_); go_simp; refine hK _ _ ?_; clear hK K; (try walk_nrm); (try simp only [at_at', alloc_at', setCell_at']); refine Gt.at ?_ _) | (refine gt_unwanted rfl (by rfl) ?_; try walk_nrm) | (first | refine gt_cond_t rfl ?_ | refine gt_cond_f rfl ?_))))
  exact gt_return rfl Try.func165 (resultsC_tmp2 rfl _)  ⟨rfl, hD, hbD, hkD⟩
end Go.Proofs.Ytekmbijlaonnmaa.Z
