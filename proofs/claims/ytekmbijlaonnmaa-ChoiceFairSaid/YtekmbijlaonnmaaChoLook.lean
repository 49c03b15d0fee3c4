/-
  One look at the cases, for whoever has no live thread.
-/
import Derived.Test.YtekmbijlaonnmaaChoFree
set_option linter.unusedSimpArgs false
set_option linter.unusedVariables false
namespace Go.Proofs.Ytekmbijlaonnmaa.Z
open Go.Conc
def foundO (a b c d : Value) : Obj := .cells #[a, b, c, d] 261 (0, 0)
set_option maxHeartbeats 1000000 in
set_option maxRecDepth 20000 in
theorem look_T {R : Nat → Pipe} {n bell tick c lb cap : Nat} {it : Nat → Nat → Int} {w : World} {h t : Nat → Nat} {bv tv : Int} (B : Bench R n bell tick c lb it w h t bv tv) (hn : 1 ≤ n) (hn9 : n ≤ 100) (kk : Nat) (hkk : kk < 2 ^ 40) :
    CallT Try.prog 133 #[.pointer none, .slice (some ⟨lb, 0, none⟩) n cap, .int .i64 ((kk : Int) + 1)] w fun x W =>
      (∃ i d, i < n ∧ h i < t i ∧ d < n ∧ i = (kk + d) % n ∧ (∀ d', d' < d → h ((kk + d') % n) = t ((kk + d') % n)) ∧ x = .tuple #[.agg #[.int .i64 (i : Int), .int .i64 (it i (h i)), .bool true, .int .i64 0], .bool true] ∧ Keeps w W (fun b => (R i).own b ∨ b = bell) ∧
        Bench R n bell tick c lb it W (fun j => if j = i then h i + 1 else h j) (fun j => if j = i then t i else t j) (IntKind.i64.wrap (bv + 1)) tv) ∨
      ((∀ j, j < n → h j = t j) ∧ x = .tuple #[.agg #[.int .i64 (-1), .int .i64 0, .bool false, .int .i64 0], .bool false] ∧ Keeps w W (fun _ => False)) := by
  have hw1 : IntKind.i64.wrap (kk : Int) = kk := wraps_i64 _ (by omega) (by omega)
  have hne : ¬ (n = 0) := by omega
  have hm1 : (kk : Int).tmod (n : Int) = ((kk % n : Nat) : Int) := by rw [Int.tmod_eq_emod_of_nonneg (by omega)]; push_cast; rfl
  have hfl : kk % n < n := Nat.mod_lt _ (by omega)
  have hm2 : IntKind.i64.wrap (((kk % n : Nat) : Int)) = ((kk % n : Nat) : Int) := wraps_i64 _ (by omega) (by omega)
  have hm3 : IntKind.i64.wrap (((kk % n : Nat) : Int) + (n : Int)) = ((kk % n : Nat) : Int) + n := wraps_i64 _ (by omega) (by omega)
  have hm4 : (((kk % n : Nat) : Int) + (n : Int)).tmod (n : Int) = ((kk % n : Nat) : Int) := by
    rw [Int.tmod_eq_emod_of_nonneg (by omega), Int.add_emod_right]
    exact Int.emod_eq_of_lt (by omega) (by omega)
  generalize hf : kk % n = f at *
  refine callT_of Try.func133 rfl fun c' cs => ?_
  simp only [Try.ntmps133, List.size_toArray, List.length_cons, List.length_nil, Nat.reduceAdd, Nat.reduceSub, Array.replicate_succ, Array.replicate_zero, List.push_toArray, List.append_toArray, List.nil_append, List.cons_append]
  (repeat (first | (first | refine gt_seq ?_ | refine gt_block ?_ | refine gt_region_end ?_ | refine gt_skip ?_ | refine gt_inBlock ?_ | refine gt_label ?_ | refine gt_scope ?_ | refine gt_inScope ?_ | refine gt_exit rfl ?_) | (refine gt_region ?_; simp only [List.size_toArray, List.length_cons, List.length_nil, Nat.reduceAdd, Nat.zero_add, List.range, List.range.loop]) | (refine gt_op rfl (by rfl) (by rfl) (by decide) (fun dd K hK => ?_); go_simp; refine hK _ _ ?_; clear hK K; (try walk_nrm); (try simp only [at_at', alloc_at', setCell_at']); refine Gt.at ?_ _) | (refine gt_unwanted rfl (by rfl) ?_; try walk_nrm) | (first | refine gt_cond_t rfl ?_ | refine gt_cond_f rfl ?_)))
  (repeat (first | (first | refine gt_seq ?_ | refine gt_block ?_ | refine gt_region_end ?_ | refine gt_skip ?_ | refine gt_inBlock ?_ | refine gt_label ?_ | refine gt_scope ?_ | refine gt_inScope ?_ | refine gt_exit rfl ?_) | (refine gt_region ?_; simp only [List.size_toArray, List.length_cons, List.length_nil, Nat.reduceAdd, Nat.zero_add, List.range, List.range.loop]) | (refine gt_op rfl (by rfl) (by rfl) (by decide) (fun dd K hK => ?_); go_simp; refine hK _ _ ?_; clear hK K; (try walk_nrm); (try simp only [at_at', alloc_at', setCell_at']); refine Gt.at ?_ _) | (refine gt_unwanted rfl (by rfl) ?_; try walk_nrm) | (first | refine gt_cond_t rfl ?_ | refine gt_cond_f rfl ?_)))
  have hk0 : Keeps w ((w.alloc (foundO (.int .i64 0) (.int .i64 0) (.bool false) (.int .i64 0))).alloc (foundO (.int .i64 0) (.int .i64 0) (.bool false) (.int .i64 0))) (fun _ => False) := ((Keeps.refl _ _).allocNew _).allocNew _
  have e1 : (w.alloc (foundO (.int .i64 0) (.int .i64 0) (.bool false) (.int .i64 0))).heap.size = w.heap.size + 1 := heap_alloc_size' _ _
  have hr0 : ((w.alloc (foundO (.int .i64 0) (.int .i64 0) (.bool false) (.int .i64 0))).alloc (foundO (.int .i64 0) (.int .i64 0) (.bool false) (.int .i64 0))).heap[w.heap.size]? = some (foundO (.int .i64 0) (.int .i64 0) (.bool false) (.int .i64 0)) := heap_alloc_old' (heap_alloc_new' _ _)
  have hx0 : ((w.alloc (foundO (.int .i64 0) (.int .i64 0) (.bool false) (.int .i64 0))).alloc (foundO (.int .i64 0) (.int .i64 0) (.bool false) (.int .i64 0))).heap[w.heap.size + 1]? = some (foundO (.int .i64 0) (.int .i64 0) (.bool false) (.int .i64 0)) := by
    have := heap_alloc_new' (w.alloc (foundO (.int .i64 0) (.int .i64 0) (.bool false) (.int .i64 0))) (foundO (.int .i64 0) (.int .i64 0) (.bool false) (.int .i64 0))
    rw [e1] at this
    exact this
  refine gt_gen (fun W' => Keeps w W' (fun _ => False) ∧ W'.heap[w.heap.size]? = some (foundO (.int .i64 0) (.int .i64 0) (.bool false) (.int .i64 0)) ∧ W'.heap[w.heap.size + 1]? = some (foundO (.int .i64 0) (.int .i64 0) (.bool false) (.int .i64 0))) ⟨hk0, hr0, hx0⟩ ?_
  clear hk0 hr0 hx0 e1
  rintro W0 ⟨hk0, hr0, hx0⟩
  refine gt_loopA (r := n) (fun (j : Nat) g => (List.toArray (.pointer none :: .slice (some ⟨lb, 0, none⟩) n cap :: (g 2) :: (g 3) :: (g 4) :: (g 5) :: .pointer (some ⟨w.heap.size, 0, none⟩) :: .bool false :: (g 8) :: .int .i64 (f : Int) :: .pointer (some ⟨w.heap.size + 1, 0, none⟩) :: (g 11) :: (g 12) :: (g 13) :: (g 14) :: (g 15) :: (g 16) :: (g 17) :: (g 18) :: (g 19) :: (g 20) :: (g 21) :: (g 22) :: (g 23) :: (g 24) :: .int .i64 (n : Int) :: .int .i64 (j : Int) :: (g 27) :: (g 28) :: (g 29) :: (g 30) :: (g 31) :: (g 32) :: (g 33) :: (g 34) :: (g 35) :: (g 36) :: (g 37) :: (g 38) :: (g 39) :: (g 40) :: (g 41) :: (g 42) :: (g 43) :: (g 44) :: (g 45) :: (g 46) :: (g 47) :: (g 48) :: (g 49) :: (g 50) :: (g 51) :: (g 52) :: (g 53) :: (g 54) :: (g 55) :: (g 56) :: (g 57) :: (g 58) :: (g 59) :: (g 60) :: (g 61) :: (g 62) :: (g 63) :: (g 64) :: (g 65) :: (g 66) :: (g 67) :: (g 68) :: (g 69) :: []))) (fun r j W => j + r = n ∧ Keeps w W (fun _ => False) ∧ (∃ a1 a2 a3 a4, W.heap[w.heap.size]? = some (foundO a1 a2 a3 a4)) ∧ (∃ a1 a2 a3 a4, W.heap[w.heap.size + 1]? = some (foundO a1 a2 a3 a4)) ∧ ∀ d', d' < j → h ((kk + d') % n) = t ((kk + d') % n))
    0 ⟨by omega, hk0, ⟨_, _, _, _, hr0⟩, ⟨_, _, _, _, hx0⟩, fun _ h => absurd h (Nat.not_lt_zero _)⟩ rfl ?_
  clear hk0 hr0 hx0 hw1 hm1 hm2 hm3 hm4
  rintro r j g W ⟨hr, hk, ⟨r1, r2, r3, r4, hrc⟩, ⟨y1, y2, y3, y4, hxc⟩, hpast⟩ ih
  try dsimp only
  have ih' := Lib.hid ih
  clear ih
  have hpast' := Lib.hid hpast
  clear hpast
  have B' := Lib.hid B
  clear B
  by_cases hlt : (j : Int) < (n : Int)
  · have hj1 : IntKind.i64.wrap ((f : Int) + (j : Int)) = f + j := wraps_i64 _ (by omega) (by omega)
    have hj2 : ((f : Int) + (j : Int)).tmod (n : Int) = (((f + j) % n : Nat) : Int) := by rw [Int.tmod_eq_emod_of_nonneg (by omega)]; push_cast; rfl
    have hil : (f + j) % n < n := Nat.mod_lt _ (by omega)
    have hj3 : IntKind.i64.wrap ((((f + j) % n : Nat)) : Int) = (((f + j) % n : Nat) : Int) := wraps_i64 _ (by omega) (by omega)
    have hij : (kk + j) % n = (f + j) % n := by rw [← hf, Nat.mod_add_mod]
    generalize (f + j) % n = i at *
    have hil' : (i : Int) < (n : Int) := by omega
    have x0 : W.cell? ⟨w.heap.size + 1, 0, none⟩ = some y1 := cell?_of hxc rfl
    have x1 : W.cell? ⟨w.heap.size + 1, 1, none⟩ = some y2 := cell?_of hxc rfl
    have x2 : W.cell? ⟨w.heap.size + 1, 2, none⟩ = some y3 := cell?_of hxc rfl
    have x3 : W.cell? ⟨w.heap.size + 1, 3, none⟩ = some y4 := cell?_of hxc rfl
    have z0 : W.frozen? ⟨w.heap.size + 1, 0, none⟩ = false := frozen?_of hxc
    have z1 : W.frozen? ⟨w.heap.size + 1, 1, none⟩ = false := frozen?_of hxc
    have z2 : W.frozen? ⟨w.heap.size + 1, 2, none⟩ = false := frozen?_of hxc
    have z3 : W.frozen? ⟨w.heap.size + 1, 3, none⟩ = false := frozen?_of hxc
    ((repeat (first | refine gt_seq ?_ | refine gt_block ?_ | refine gt_skip ?_ | refine gt_inBlock ?_ | refine gt_label ?_ | refine gt_scope ?_ | refine gt_inScope ?_ | refine gt_exit rfl ?_ | (first | refine gt_cond_t rfl ?_ | refine gt_cond_f rfl ?_))); (refine gt_region ?_; simp only [List.size_toArray, List.length_cons, List.length_nil, Nat.reduceAdd, Nat.zero_add, List.range, List.range.loop]); (repeat (first | (refine gt_op rfl (by rfl) (by rfl) (by decide) (fun dd K hK => ?_); go_simp; refine hK _ _ ?_; clear hK K; (try walk_nrm); (try simp only [at_at', alloc_at', setCell_at']); refine Gt.at ?_ _) | (refine gt_unwanted rfl (by rfl) ?_; try walk_nrm))); refine gt_region_end ?_)
    ((repeat (first | refine gt_seq ?_ | refine gt_block ?_ | refine gt_skip ?_ | refine gt_inBlock ?_ | refine gt_label ?_ | refine gt_scope ?_ | refine gt_inScope ?_ | refine gt_exit rfl ?_ | (first | refine gt_cond_t rfl ?_ | refine gt_cond_f rfl ?_))); (refine gt_region ?_; simp only [List.size_toArray, List.length_cons, List.length_nil, Nat.reduceAdd, Nat.zero_add, List.range, List.range.loop]); (repeat (first | (refine gt_op rfl (by rfl) (by rfl) (by decide) (fun dd K hK => ?_); go_simp; refine hK _ _ ?_; clear hK K; (try walk_nrm); (try simp only [at_at', alloc_at', setCell_at']); refine Gt.at ?_ _) | (refine gt_unwanted rfl (by rfl) ?_; try walk_nrm))); refine gt_region_end ?_)
    ((repeat (first | refine gt_seq ?_ | refine gt_block ?_ | refine gt_skip ?_ | refine gt_inBlock ?_ | refine gt_label ?_ | refine gt_scope ?_ | refine gt_inScope ?_ | refine gt_exit rfl ?_ | (first | refine gt_cond_t rfl ?_ | refine gt_cond_f rfl ?_))); (refine gt_region ?_; simp only [List.size_toArray, List.length_cons, List.length_nil, Nat.reduceAdd, Nat.zero_add, List.range, List.range.loop]); (repeat (first | (refine gt_op rfl (by rfl) (by rfl) (by decide) (fun dd K hK => ?_); go_simp; refine hK _ _ ?_; clear hK K; (try walk_nrm); (try simp only [at_at', alloc_at', setCell_at']); refine Gt.at ?_ _) | (refine gt_unwanted rfl (by rfl) ?_; try walk_nrm))); refine gt_region_end ?_)
    refine gt_gen (fun W' => Keeps w W' (fun _ => False) ∧ W'.heap[w.heap.size]? = some (foundO r1 r2 r3 r4) ∧ W'.heap[w.heap.size + 1]? = some (foundO (.int .i64 i) (.int .i64 0) (.bool true) (.int .i64 0))) ⟨(((hk.setNew _ (Nat.le_succ _)).setNew _ (Nat.le_succ _)).setNew _ (Nat.le_succ _)).setNew _ (Nat.le_succ _), by
      rw [heap_set_ne (by omega), heap_set_ne (by omega), heap_set_ne (by omega), heap_set_ne (by omega)]; exact hrc, heap_set_self (heap_set_self (heap_set_self (heap_set_self hxc _) _) _) _⟩ ?_
    clear hk hrc hxc x0 x1 x2 x3 z0 z1 z2 z3
    rintro W1 ⟨hk, hrc, hxc⟩
    have x0 : W1.cell? ⟨w.heap.size + 1, 0, none⟩ = some (.int .i64 i) := cell?_of hxc rfl
    obtain ⟨cur, hcur, hcs⟩ := B'.out.row
    obtain ⟨hA, hB, hC⟩ := hcs i hil
    have hcur' := hk.heap hcur (fun h => h)
    have k0 : W1.cell? ⟨lb, i * 3, none⟩ = _ := cell?_of hcur' hA
    have k1 : W1.cell? ⟨lb, i * 3 + 1, none⟩ = _ := cell?_of hcur' hB
    have k2 : W1.cell? ⟨lb, i * 3 + 2, none⟩ = _ := cell?_of hcur' hC
    clear hcur'
    ((repeat (first | refine gt_seq ?_ | refine gt_block ?_ | refine gt_skip ?_ | refine gt_inBlock ?_ | refine gt_label ?_ | refine gt_scope ?_ | refine gt_inScope ?_ | refine gt_exit rfl ?_ | (first | refine gt_cond_t rfl ?_ | refine gt_cond_f rfl ?_))); (refine gt_region ?_; simp only [List.size_toArray, List.length_cons, List.length_nil, Nat.reduceAdd, Nat.zero_add, List.range, List.range.loop]); (repeat (first | (refine gt_op rfl (by rfl) (by rfl) (by decide) (fun dd K hK => ?_); go_simp; refine hK _ _ ?_; clear hK K; (try walk_nrm); (try simp only [at_at', alloc_at', setCell_at']); refine Gt.at ?_ _) | (refine gt_unwanted rfl (by rfl) ?_; try walk_nrm))); refine gt_region_end ?_)
    refine gt_gen (fun W' => Keeps w W' (fun _ => False) ∧ W'.heap[w.heap.size]? = some (foundO r1 r2 r3 r4) ∧ W'.heap[w.heap.size + 1]? = some (foundO (.int .i64 i) (.int .i64 0) (.bool true) (.int .i64 0)) ∧ W'.heap[W1.heap.size]? = some (.cells #[.pointer (some ⟨(R i).p, 0, none⟩), .bool false, .int .i64 0] 78 (0, 0))) ⟨(((hk.allocNew _).setNew _ hk.size).setNew _ hk.size).setNew _ hk.size, by
      have := lt_of_heap hrc
      rw [heap_set_ne (by omega), heap_set_ne (by omega), heap_set_ne (by omega)]; exact heap_alloc_old' hrc, by
      have := lt_of_heap hxc
      rw [heap_set_ne (by omega), heap_set_ne (by omega), heap_set_ne (by omega)]; exact heap_alloc_old' hxc, heap_set_self (heap_set_self (heap_set_self (heap_alloc_new' _ _) _) _) _⟩ ?_
    have hcb : w.heap.size ≤ W1.heap.size := hk.size
    clear hk hrc hxc x0 k0 k1 k2
    generalize W1.heap.size = cb at *
    rintro W2 ⟨hk, hrc, hxc, hcc⟩
    have c0 : W2.cell? ⟨cb, 0, none⟩ = some (.pointer (some ⟨(R i).p, 0, none⟩)) := cell?_of hcc rfl
    have c1 : W2.cell? ⟨cb, 1, none⟩ = some (.bool false) := cell?_of hcc rfl
    ((repeat (first | refine gt_seq ?_ | refine gt_block ?_ | refine gt_skip ?_ | refine gt_inBlock ?_ | refine gt_label ?_ | refine gt_scope ?_ | refine gt_inScope ?_ | refine gt_exit rfl ?_ | (first | refine gt_cond_t rfl ?_ | refine gt_cond_f rfl ?_))); (refine gt_region ?_; simp only [List.size_toArray, List.length_cons, List.length_nil, Nat.reduceAdd, Nat.zero_add, List.range, List.range.loop]); (repeat (first | (refine gt_op rfl (by rfl) (by rfl) (by decide) (fun dd K hK => ?_); go_simp; refine hK _ _ ?_; clear hK K; (try walk_nrm); (try simp only [at_at', alloc_at', setCell_at']); refine Gt.at ?_ _) | (refine gt_unwanted rfl (by rfl) ?_; try walk_nrm))); refine gt_region_end ?_)
    ((repeat (first | refine gt_seq ?_ | refine gt_block ?_ | refine gt_skip ?_ | refine gt_inBlock ?_ | refine gt_label ?_ | refine gt_scope ?_ | refine gt_inScope ?_ | refine gt_exit rfl ?_ | (first | refine gt_cond_t rfl ?_ | refine gt_cond_f rfl ?_))); (refine gt_region ?_; simp only [List.size_toArray, List.length_cons, List.length_nil, Nat.reduceAdd, Nat.zero_add, List.range, List.range.loop]); (repeat (first | (refine gt_op rfl (by rfl) (by rfl) (by decide) (fun dd K hK => ?_); go_simp; refine hK _ _ ?_; clear hK K; (try walk_nrm); (try simp only [at_at', alloc_at', setCell_at']); refine Gt.at ?_ _) | (refine gt_unwanted rfl (by rfl) ?_; try walk_nrm))); refine gt_region_end ?_)
    have B2 := Lib.hid (B'.out.kept hk)
    obtain ⟨val, hP, hQ⟩ := B2.out.pipes i hil
    have hbell : (R i).bell = bell := B2.out.bells i hil
    by_cases hhit : h i < t i
    · have hb2 : CellB W2 (R i).bell bv := by rw [hbell]; exact B2.out.bellC
      have htr := tryRecv_T hP hb2 (k := h i) (by have := hQ.low; omega) hQ.head (by rw [hQ.turn (h i) (Nat.le_refl _) (by have := hP.pos; omega), if_pos hhit])
      rw [hQ.item (h i) (Nat.le_refl _) hhit] at htr
      have hQ' := hQ.recv hhit (by have := hP.pos; omega)
      have hown : ∀ b, (R i).own b ∨ b = bell → b < w.heap.size := fun b hb => hb.elim (fun x => Nat.lt_of_lt_of_le x.2 (B'.out.hiLe i hil)) fun x => by subst x; exact lt_of_heap B'.out.bellC
      (repeat (first | (first | refine gt_seq ?_ | refine gt_block ?_ | refine gt_region_end ?_ | refine gt_skip ?_ | refine gt_inBlock ?_ | refine gt_label ?_ | refine gt_scope ?_ | refine gt_inScope ?_ | refine gt_exit rfl ?_) | (refine gt_region ?_; simp only [List.size_toArray, List.length_cons, List.length_nil, Nat.reduceAdd, Nat.zero_add, List.range, List.range.loop]) | (refine gt_op rfl (by rfl) (by rfl) (by decide) (fun dd K hK => ?_); go_simp; refine hK _ _ ?_; clear hK K; (try walk_nrm); (try simp only [at_at', alloc_at', setCell_at']); refine Gt.at ?_ _) | (refine gt_unwanted rfl (by rfl) ?_; try walk_nrm) | (first | refine gt_cond_t rfl ?_ | refine gt_cond_f rfl ?_)))
      refine gt_callf rfl (by rfl) (by decide) rfl rfl Try.func165 (by rfl) rfl (htr) (by simp [Act.eval]) ?_
      clear c0 c1 htr
      rintro _ W3 ⟨rfl, hP3, hb3, hk3⟩
      rw [hbell] at hb3 hk3
      have hrc3 := hk3.heap hrc (fun h => Nat.lt_irrefl _ (hown _ h))
      have hxc3 := hk3.heap hxc (fun h => by have := hown _ h; omega)
      have x1 : W3.cell? ⟨w.heap.size + 1, 1, none⟩ = some (.int .i64 0) := cell?_of hxc3 rfl
      have z1 : W3.frozen? ⟨w.heap.size + 1, 1, none⟩ = false := frozen?_of hxc3
      have B3 := Lib.hid (B2.out.turn hil hP3 hQ' hb3 hk3)
      have hkw : Keeps w W3 (fun b => (R i).own b ∨ b = bell) := (hk.more (fun _ _ h => h.elim)).trans hk3
      clear hcc hxc hrc hk hk3 hb3 hP3 hQ' hP hQ
      walk_nrm
      (repeat (first | (first | refine gt_seq ?_ | refine gt_block ?_ | refine gt_region_end ?_ | refine gt_skip ?_ | refine gt_inBlock ?_ | refine gt_label ?_ | refine gt_scope ?_ | refine gt_inScope ?_ | refine gt_exit rfl ?_) | (refine gt_region ?_; simp only [List.size_toArray, List.length_cons, List.length_nil, Nat.reduceAdd, Nat.zero_add, List.range, List.range.loop]) | (refine gt_op rfl (by rfl) (by rfl) (by decide) (fun dd K hK => ?_); go_simp; refine hK _ _ ?_; clear hK K; (try walk_nrm); (try simp only [at_at', alloc_at', setCell_at']); refine Gt.at ?_ _) | (refine gt_unwanted rfl (by rfl) ?_; try walk_nrm) | (first | refine gt_cond_t rfl ?_ | refine gt_cond_f rfl ?_)))
      have hsz3 : w.heap.size ≤ W3.heap.size := hkw.size
      refine gt_gen (fun W' => Keeps W3 W' (fun b => w.heap.size ≤ b) ∧ W'.heap[w.heap.size]? = some (foundO r1 r2 r3 r4) ∧ W'.heap[w.heap.size + 1]? = some (foundO (.int .i64 i) (.int .i64 (it i (h i))) (.bool true) (.int .i64 0))) ⟨Keeps.set _ _ (Nat.le_succ _), by rw [heap_set_ne (by omega)]; exact hrc3, heap_set_self hxc3 _⟩ ?_
      clear hxc3 hrc3 x1 z1
      rintro W4 ⟨hk4, hrc, hxc⟩
      have x0 : W4.cell? ⟨w.heap.size + 1, 0, none⟩ = _ := cell?_of hxc rfl
      have x1 : W4.cell? ⟨w.heap.size + 1, 1, none⟩ = _ := cell?_of hxc rfl
      have x2 : W4.cell? ⟨w.heap.size + 1, 2, none⟩ = _ := cell?_of hxc rfl
      have x3 : W4.cell? ⟨w.heap.size + 1, 3, none⟩ = _ := cell?_of hxc rfl
      have y0 : W4.cell? ⟨w.heap.size, 0, none⟩ = some r1 := cell?_of hrc rfl
      have y1 : W4.cell? ⟨w.heap.size, 1, none⟩ = some r2 := cell?_of hrc rfl
      have y2 : W4.cell? ⟨w.heap.size, 2, none⟩ = some r3 := cell?_of hrc rfl
      have y3 : W4.cell? ⟨w.heap.size, 3, none⟩ = some r4 := cell?_of hrc rfl
      have z0 : W4.frozen? ⟨w.heap.size, 0, none⟩ = false := frozen?_of hrc
      have z1 : W4.frozen? ⟨w.heap.size, 1, none⟩ = false := frozen?_of hrc
      have z2 : W4.frozen? ⟨w.heap.size, 2, none⟩ = false := frozen?_of hrc
      have z3 : W4.frozen? ⟨w.heap.size, 3, none⟩ = false := frozen?_of hrc
      (repeat (first | (first | refine gt_seq ?_ | refine gt_block ?_ | refine gt_region_end ?_ | refine gt_skip ?_ | refine gt_inBlock ?_ | refine gt_label ?_ | refine gt_scope ?_ | refine gt_inScope ?_ | refine gt_exit rfl ?_) | (refine gt_region ?_; simp only [List.size_toArray, List.length_cons, List.length_nil, Nat.reduceAdd, Nat.zero_add, List.range, List.range.loop]) | (refine gt_op rfl (by rfl) (by rfl) (by decide) (fun dd K hK => ?_); go_simp; refine hK _ _ ?_; clear hK K; (try walk_nrm); (try simp only [at_at', alloc_at', setCell_at']); refine Gt.at ?_ _) | (refine gt_unwanted rfl (by rfl) ?_; try walk_nrm) | (first | refine gt_cond_t rfl ?_ | refine gt_cond_f rfl ?_)))
      refine gt_gen (fun W' => Keeps W3 W' (fun b => w.heap.size ≤ b) ∧ W'.heap[w.heap.size]? = some (foundO (.int .i64 i) (.int .i64 (it i (h i))) (.bool true) (.int .i64 0))) ⟨(((hk4.trans (Keeps.set _ _ (Nat.le_refl _))).trans (Keeps.set _ _ (Nat.le_refl _))).trans (Keeps.set _ _ (Nat.le_refl _))).trans (Keeps.set _ _ (Nat.le_refl _)), heap_set_self (heap_set_self (heap_set_self (heap_set_self hrc _) _) _) _⟩ ?_
      clear x0 x1 x2 x3 y0 y1 y2 y3 z0 z1 z2 z3 hrc hxc hk4
      rintro W5 ⟨hk5, hrc⟩
      have y0 : W5.cell? ⟨w.heap.size, 0, none⟩ = _ := cell?_of hrc rfl
      have y1 : W5.cell? ⟨w.heap.size, 1, none⟩ = _ := cell?_of hrc rfl
      have y2 : W5.cell? ⟨w.heap.size, 2, none⟩ = _ := cell?_of hrc rfl
      have y3 : W5.cell? ⟨w.heap.size, 3, none⟩ = _ := cell?_of hrc rfl
      have hkW : Keeps w W5 (fun b => (R i).own b ∨ b = bell) := ⟨Nat.le_trans hkw.size hk5.size, hk5.os.trans hkw.os, fun b hb hs => (hk5.old b (Nat.lt_of_lt_of_le hb hkw.size) (by omega)).trans (hkw.old b hb hs)⟩
      exact gt_returnE rfl Try.func133 (fun d => by rw [results_cell_tmp rfl]; simp [go_sem, y0, y1, y2, y3]) (.inl ⟨i, j, hil, hhit, by omega, hij.symm, hpast'.out, rfl, hkW, B3.out.keptAbove B'.out hk5⟩)
    · have heq : h i = t i := by have := hQ.ht; omega
      have htr := tryRecv_none_T hP (k := h i) (by have := hQ.low; omega) (by rw [hQ.tail, heq]) hQ.head (by rw [hQ.turn (h i) (Nat.le_refl _) (by have := hP.pos; omega), if_neg hhit])
      have x1 : W2.cell? ⟨w.heap.size + 1, 1, none⟩ = some (.int .i64 0) := cell?_of hxc rfl
      have z1 : W2.frozen? ⟨w.heap.size + 1, 1, none⟩ = false := frozen?_of hxc
      have hjw : IntKind.i64.wrap ((j : Int) + 1) = j + 1 := wraps_i64 _ (by omega) (by omega)
      have hQQ := Lib.hid hQ
      clear hQ
      (repeat (first | (first | refine gt_seq ?_ | refine gt_block ?_ | refine gt_region_end ?_ | refine gt_skip ?_ | refine gt_inBlock ?_ | refine gt_label ?_ | refine gt_scope ?_ | refine gt_inScope ?_ | refine gt_exit rfl ?_) | (refine gt_region ?_; simp only [List.size_toArray, List.length_cons, List.length_nil, Nat.reduceAdd, Nat.zero_add, List.range, List.range.loop]) | (refine gt_op rfl (by rfl) (by rfl) (by decide) (fun dd K hK => ?_); go_simp; refine hK _ _ ?_; clear hK K; (try walk_nrm); (try simp only [at_at', alloc_at', setCell_at']); refine Gt.at ?_ _) | (refine gt_unwanted rfl (by rfl) ?_; try walk_nrm) | (first | refine gt_cond_t rfl ?_ | refine gt_cond_f rfl ?_)))
      refine gt_callf rfl (by rfl) (by decide) rfl rfl Try.func165 (by rfl) rfl (htr) (by simp [Act.eval]) ?_
      clear htr
      (rintro _ W' ⟨rfl, e'⟩; subst W'; walk_nrm; (repeat (first | (first | refine gt_seq ?_ | refine gt_block ?_ | refine gt_region_end ?_ | refine gt_skip ?_ | refine gt_inBlock ?_ | refine gt_label ?_ | refine gt_scope ?_ | refine gt_inScope ?_ | refine gt_exit rfl ?_) | (refine gt_region ?_; simp only [List.size_toArray, List.length_cons, List.length_nil, Nat.reduceAdd, Nat.zero_add, List.range, List.range.loop]) | (refine gt_op rfl (by rfl) (by rfl) (by decide) (fun dd K hK => ?_); go_simp; refine hK _ _ ?_; clear hK K; (try walk_nrm); (try simp only [at_at', alloc_at', setCell_at']); refine Gt.at ?_ _) | (refine gt_unwanted rfl (by rfl) ?_; try walk_nrm) | (first | refine gt_cond_t rfl ?_ | refine gt_cond_f rfl ?_))))
      exact ih'.out (r - 1) (j + 1) _ _ (by omega) ⟨by omega, hk.setNew _ (Nat.le_succ _), ⟨_, _, _, _, by rw [heap_set_ne (by omega)]; exact hrc⟩, ⟨_, _, _, _, heap_set_self hxc _⟩, fun d' hd => by
        rcases Nat.lt_succ_iff_lt_or_eq.1 hd with x | x
        · exact hpast'.out d' x
        · subst x; rw [hij]; exact heq⟩ rfl
  · have hjn : j = n := by omega
    subst hjn
    have y0 : W.cell? ⟨w.heap.size, 0, none⟩ = some r1 := cell?_of hrc rfl
    have y1 : W.cell? ⟨w.heap.size, 1, none⟩ = some r2 := cell?_of hrc rfl
    have y2 : W.cell? ⟨w.heap.size, 2, none⟩ = some r3 := cell?_of hrc rfl
    have y3 : W.cell? ⟨w.heap.size, 3, none⟩ = some r4 := cell?_of hrc rfl
    have z0 : W.frozen? ⟨w.heap.size, 0, none⟩ = false := frozen?_of hrc
    have z1 : W.frozen? ⟨w.heap.size, 1, none⟩ = false := frozen?_of hrc
    have z2 : W.frozen? ⟨w.heap.size, 2, none⟩ = false := frozen?_of hrc
    have z3 : W.frozen? ⟨w.heap.size, 3, none⟩ = false := frozen?_of hrc
    (repeat (first | (first | refine gt_seq ?_ | refine gt_block ?_ | refine gt_region_end ?_ | refine gt_skip ?_ | refine gt_inBlock ?_ | refine gt_label ?_ | refine gt_scope ?_ | refine gt_inScope ?_ | refine gt_exit rfl ?_) | (refine gt_region ?_; simp only [List.size_toArray, List.length_cons, List.length_nil, Nat.reduceAdd, Nat.zero_add, List.range, List.range.loop]) | (refine gt_op rfl (by rfl) (by rfl) (by decide) (fun dd K hK => ?_); go_simp; refine hK _ _ ?_; clear hK K; (try walk_nrm); (try simp only [at_at', alloc_at', setCell_at']); refine Gt.at ?_ _) | (refine gt_unwanted rfl (by rfl) ?_; try walk_nrm) | (first | refine gt_cond_t rfl ?_ | refine gt_cond_f rfl ?_)))
    refine gt_gen (fun W' => Keeps w W' (fun _ => False) ∧ W'.heap[w.heap.size]? = some (foundO (.int .i64 (-1)) (.int .i64 0) (.bool false) (.int .i64 0))) ⟨(((hk.setNew _ (Nat.le_refl _)).setNew _ (Nat.le_refl _)).setNew _ (Nat.le_refl _)).setNew _ (Nat.le_refl _), heap_set_self (heap_set_self (heap_set_self (heap_set_self hrc _) _) _) _⟩ ?_
    clear y0 y1 y2 y3 z0 z1 z2 z3 hrc hxc hk
    rintro W5 ⟨hk5, hrc⟩
    have y0 : W5.cell? ⟨w.heap.size, 0, none⟩ = _ := cell?_of hrc rfl
    have y1 : W5.cell? ⟨w.heap.size, 1, none⟩ = _ := cell?_of hrc rfl
    have y2 : W5.cell? ⟨w.heap.size, 2, none⟩ = _ := cell?_of hrc rfl
    have y3 : W5.cell? ⟨w.heap.size, 3, none⟩ = _ := cell?_of hrc rfl
    refine gt_returnE rfl Try.func133 (fun d => by rw [results_cell_tmp rfl]; simp [go_sem, y0, y1, y2, y3]) (.inr ⟨fun i hi => ?_, rfl, hk5⟩)
    obtain ⟨d, hd, e⟩ : ∃ d, d < j ∧ (kk + d) % j = i := by
      by_cases hx : f ≤ i
      · exact ⟨i - f, by omega, by rw [← Nat.mod_add_mod, hf, Nat.mod_eq_of_lt (by omega)]; omega⟩
      · exact ⟨i + j - f, by omega, by rw [← Nat.mod_add_mod, hf, show f + (i + j - f) = i + j by omega, Nat.add_mod_right, Nat.mod_eq_of_lt hi]⟩
    rw [← e]
    exact hpast'.out d hd
end Go.Proofs.Ytekmbijlaonnmaa.Z
