/-
  Try and Select, for whoever has no live thread.
-/
import Derived.Test.YtekmbijlaonnmaaChoLook
set_option linter.unusedSimpArgs false
set_option linter.unusedVariables false
namespace Go.Proofs.Ytekmbijlaonnmaa.Z
open Go.Conc
theorem Bench.tick {R : Nat → Pipe} {n bell tick c lb : Nat} {it : Nat → Nat → Int} {w : World} {h t : Nat → Nat} {bv tv : Int} (B : Bench R n bell tick c lb it w h t bv tv) (y : Int) : Bench R n bell tick c lb it (w.setCell ⟨tick, 0, none⟩ (.int .i64 y)) h t bv y := by
  have hk := Keeps.set w (off := 0) (.int .i64 y) (S := fun b => b = tick) (b := tick) rfl
  have hct : c ≠ tick := fun e => by
    have h1 := B.cO; have h2 : w.heap[tick]? = some (cellO tv) := B.tickC
    rw [e, h2] at h1; simp [cellO, choiceO] at h1
  have hlt : lb ≠ tick := fun e => by
    obtain ⟨cur, h1, _⟩ := B.row; have h2 : w.heap[tick]? = some (cellO tv) := B.tickC
    rw [e, h2] at h1; simp [cellO] at h1
  exact ⟨fun j hj => let ⟨val, a, b⟩ := B.pipes j hj; ⟨val, a.kept hk fun x hx hs => (B.out j hj).1 (by subst hs; exact hx), b⟩, B.bells, B.order, fun j hj => Nat.le_trans (B.hiLe j hj) hk.size, hk.heap B.bellC (fun e => B.bt e.symm), cellB_set B.tickC y, hk.heap B.cO hct, B.row.kept hk hlt, B.out, B.bt⟩
theorem Bench.refused {R : Nat → Pipe} {n bell tick c lb cap : Nat} {it : Nat → Nat → Int} {w : World} {h t : Nat → Nat} {bv tv : Int} (B : Bench R n bell tick c lb it w h t bv tv) (hn : 1 ≤ n) (hn9 : n ≤ 100) :
    CallT Try.prog 132 #[.pointer (some ⟨c, 0, none⟩), .slice (some ⟨lb, 0, none⟩) n cap] w fun x W => x = .int .i64 0 ∧ Keeps w W (fun _ => False) := by
  have hv : ∃ val : Nat → Nat → Int, ∀ j, j < n → PipeIs (R j) w (val j) := by
    refine ⟨fun j => if hj : j < n then Classical.choose (B.pipes j hj) else val0, fun j hj => ?_⟩
    simp only [hj, dif_pos]
    exact (Classical.choose_spec (B.pipes j hj)).1
  obtain ⟨val, hv⟩ := hv
  exact refused_T (val := val) B.cO B.row hn hn9 fun j hj => ⟨hv j hj, B.bells j hj⟩
set_option maxHeartbeats 1000000 in
set_option maxRecDepth 20000 in
theorem select_T {R : Nat → Pipe} {n bell tick c lb cap : Nat} {it : Nat → Nat → Int} {w : World} {h t : Nat → Nat} {bv : Int} {kk : Nat} (B : Bench R n bell tick c lb it w h t bv (kk : Int)) (hn : 1 ≤ n) (hn9 : n ≤ 100) (hkk : kk < 2 ^ 30) {j0 : Nat} (hj0 : j0 < n) (hs : h j0 < t j0) :
    CallT Try.prog 38 #[.pointer (some ⟨c, 0, none⟩), .pointer none, .slice (some ⟨lb, 0, none⟩) n cap] w fun x W =>
      ∃ i d, i < n ∧ h i < t i ∧ d < n ∧ i = (kk + d) % n ∧ (∀ d', d' < d → h ((kk + d') % n) = t ((kk + d') % n)) ∧ x = .tuple #[.int .i64 (i : Int), .int .i64 (it i (h i)), .bool true, .int .i64 0] ∧
        (∃ bv', Bench R n bell tick c lb it W (fun j => if j = i then h i + 1 else h j) (fun j => if j = i then t i else t j) bv' ((kk + 1 : Nat) : Int)) ∧ Keeps w W (fun b => b = tick ∨ b = bell ∨ ∃ j, j < n ∧ (R j).own b) := by
  have hk1 : IntKind.i64.wrap ((kk : Int) + 1) = kk + 1 := wraps_i64 _ (by omega) (by omega)
  have hrf := B.refused (cap := cap) hn hn9
  have B' := Lib.hid B
  clear B
  refine callT_of Try.func38 rfl fun c' cs => ?_
  simp only [Try.ntmps38, List.size_toArray, List.length_cons, List.length_nil, Nat.reduceAdd, Nat.reduceSub, Array.replicate_succ, Array.replicate_zero, List.push_toArray, List.append_toArray, List.nil_append, List.cons_append]
  (repeat (first | (first | refine gt_seq ?_ | refine gt_block ?_ | refine gt_region_end ?_ | refine gt_skip ?_ | refine gt_inBlock ?_ | refine gt_label ?_ | refine gt_scope ?_ | refine gt_inScope ?_ | refine gt_exit rfl ?_) | (refine gt_region ?_; simp only [List.size_toArray, List.length_cons, List.length_nil, Nat.reduceAdd, Nat.zero_add, List.range, List.range.loop]) | (refine gt_op rfl (by rfl) (by rfl) (by decide) (fun dd K hK => ?_); go_simp; refine hK _ _ ?_; clear hK K; (try walk_nrm); (try simp only [at_at', alloc_at', setCell_at']); refine Gt.at ?_ _) | (refine gt_unwanted rfl (by rfl) ?_; try walk_nrm) | (first | refine gt_cond_t rfl ?_ | refine gt_cond_f rfl ?_)))
  refine gt_callf rfl (by rfl) (by decide) rfl rfl Try.func132 (by rfl) rfl (hrf) (by simp [Act.eval]) ?_
  clear hrf
  rintro _ W1 ⟨rfl, hkp⟩
  walk_nrm
  have B1 := B'.out.kept hkp
  have c0 : W1.cell? ⟨c, 0, none⟩ = some (.pointer (some ⟨bell, 0, none⟩)) := cell?_of B1.cO rfl
  have c1 : W1.cell? ⟨c, 1, none⟩ = some (.pointer (some ⟨tick, 0, none⟩)) := cell?_of B1.cO rfl
  have had := add_T B1.tickC 1
  rw [hk1] at had
  have B2 := B1.tick ((kk : Int) + 1)
  have hkp2 : Keeps w (W1.setCell ⟨tick, 0, none⟩ (.int .i64 ((kk : Int) + 1))) (fun b => b = tick ∨ b = bell ∨ ∃ j, j < n ∧ (R j).own b) := (hkp.more fun _ _ x => x.elim).trans (Keeps.set _ _ (.inl rfl))
  have B1' := Lib.hid B1
  clear B1
  (repeat (first | (first | refine gt_seq ?_ | refine gt_block ?_ | refine gt_region_end ?_ | refine gt_skip ?_ | refine gt_inBlock ?_ | refine gt_label ?_ | refine gt_scope ?_ | refine gt_inScope ?_ | refine gt_exit rfl ?_) | (refine gt_region ?_; simp only [List.size_toArray, List.length_cons, List.length_nil, Nat.reduceAdd, Nat.zero_add, List.range, List.range.loop]) | (refine gt_op rfl (by rfl) (by rfl) (by decide) (fun dd K hK => ?_); go_simp; refine hK _ _ ?_; clear hK K; (try walk_nrm); (try simp only [at_at', alloc_at', setCell_at']); refine Gt.at ?_ _) | (refine gt_unwanted rfl (by rfl) ?_; try walk_nrm) | (first | refine gt_cond_t rfl ?_ | refine gt_cond_f rfl ?_)))
  refine gt_callf rfl (by rfl) (by decide) rfl rfl Try.func102 (by rfl) rfl (had) (by simp [Act.eval]) ?_
  clear had c0 c1
  rintro _ W' ⟨rfl, e'⟩; subst W'
  generalize W1.setCell ⟨tick, 0, none⟩ (.int .i64 ((kk : Int) + 1)) = W2 at *
  walk_nrm
  have c0 : W2.cell? ⟨c, 0, none⟩ = some (.pointer (some ⟨bell, 0, none⟩)) := cell?_of B2.cO rfl
  have hld := load_T B2.bellC
  have hlk := look_T B2 (cap := cap) hn hn9 kk (by omega)
  have B2' := Lib.hid B2
  clear B2
  (repeat (first | (first | refine gt_seq ?_ | refine gt_block ?_ | refine gt_region_end ?_ | refine gt_skip ?_ | refine gt_inBlock ?_ | refine gt_label ?_ | refine gt_scope ?_ | refine gt_inScope ?_ | refine gt_exit rfl ?_) | (refine gt_region ?_; simp only [List.size_toArray, List.length_cons, List.length_nil, Nat.reduceAdd, Nat.zero_add, List.range, List.range.loop]) | (refine gt_op rfl (by rfl) (by rfl) (by decide) (fun dd K hK => ?_); go_simp; refine hK _ _ ?_; clear hK K; (try walk_nrm); (try simp only [at_at', alloc_at', setCell_at']); refine Gt.at ?_ _) | (refine gt_unwanted rfl (by rfl) ?_; try walk_nrm) | (first | refine gt_cond_t rfl ?_ | refine gt_cond_f rfl ?_)))
  refine gt_loop ?_
  (repeat (first | (first | refine gt_seq ?_ | refine gt_block ?_ | refine gt_region_end ?_ | refine gt_skip ?_ | refine gt_inBlock ?_ | refine gt_label ?_ | refine gt_scope ?_ | refine gt_inScope ?_ | refine gt_exit rfl ?_) | (refine gt_region ?_; simp only [List.size_toArray, List.length_cons, List.length_nil, Nat.reduceAdd, Nat.zero_add, List.range, List.range.loop]) | (refine gt_op rfl (by rfl) (by rfl) (by decide) (fun dd K hK => ?_); go_simp; refine hK _ _ ?_; clear hK K; (try walk_nrm); (try simp only [at_at', alloc_at', setCell_at']); refine Gt.at ?_ _) | (refine gt_unwanted rfl (by rfl) ?_; try walk_nrm) | (first | refine gt_cond_t rfl ?_ | refine gt_cond_f rfl ?_)))
  refine gt_callf rfl (by rfl) (by decide) rfl rfl Try.func33 (by rfl) rfl (hld) (by simp [Act.eval]) ?_
  clear hld
  (rintro _ W' ⟨rfl, e'⟩; subst W'; walk_nrm; (repeat (first | (first | refine gt_seq ?_ | refine gt_block ?_ | refine gt_region_end ?_ | refine gt_skip ?_ | refine gt_inBlock ?_ | refine gt_label ?_ | refine gt_scope ?_ | refine gt_inScope ?_ | refine gt_exit rfl ?_) | (refine gt_region ?_; simp only [List.size_toArray, List.length_cons, List.length_nil, Nat.reduceAdd, Nat.zero_add, List.range, List.range.loop]) | (refine gt_op rfl (by rfl) (by rfl) (by decide) (fun dd K hK => ?_); go_simp; refine hK _ _ ?_; clear hK K; (try walk_nrm); (try simp only [at_at', alloc_at', setCell_at']); refine Gt.at ?_ _) | (refine gt_unwanted rfl (by rfl) ?_; try walk_nrm) | (first | refine gt_cond_t rfl ?_ | refine gt_cond_f rfl ?_))))
  refine gt_callf rfl (by rfl) (by decide) rfl rfl Try.func133 (by rfl) rfl (hlk) (by simp [Act.eval]) ?_
  clear hlk c0
  rintro x W3 hx
  rcases hx with ⟨i, d, hi, hlt, hd, hid, hpast, rfl, hk3, hB3⟩ | ⟨hall, _, _⟩
  · have hidx := Lib.hid hid
    have hpast' := Lib.hid hpast
    have hB3' := Lib.hid hB3
    clear hid hpast hB3
    walk_nrm
    (repeat (first | (first | refine gt_seq ?_ | refine gt_block ?_ | refine gt_region_end ?_ | refine gt_skip ?_ | refine gt_inBlock ?_ | refine gt_label ?_ | refine gt_scope ?_ | refine gt_inScope ?_ | refine gt_exit rfl ?_) | (refine gt_region ?_; simp only [List.size_toArray, List.length_cons, List.length_nil, Nat.reduceAdd, Nat.zero_add, List.range, List.range.loop]) | (refine gt_op rfl (by rfl) (by rfl) (by decide) (fun dd K hK => ?_); go_simp; refine hK _ _ ?_; clear hK K; (try walk_nrm); (try simp only [at_at', alloc_at', setCell_at']); refine Gt.at ?_ _) | (refine gt_unwanted rfl (by rfl) ?_; try walk_nrm) | (first | refine gt_cond_t rfl ?_ | refine gt_cond_f rfl ?_)))
    refine gt_gen (fun W' => Keeps W3 W' (fun _ => False) ∧ W'.heap[W3.heap.size]? = some (foundO (.int .i64 (i : Int)) (.int .i64 (it i (h i))) (.bool true) (.int .i64 0))) ⟨Keeps.alloc _ _ _, heap_alloc_new' _ _⟩ ?_
    rintro W4 ⟨hk4, hxc⟩
    have hB4 := Lib.hid (hB3'.out.kept hk4)
    have hkW : Keeps w W4 (fun b => b = tick ∨ b = bell ∨ ∃ j, j < n ∧ (R j).own b) := (hkp2.trans (hk3.more fun b _ hb => hb.elim (fun x => .inr (.inr ⟨i, hi, x⟩)) fun x => .inr (.inl x))).trans (hk4.more fun _ _ x => x.elim)
    clear hB3' hk4 hk3 hkp2
    generalize W3.heap.size = xb at *
    have hI := di_T
    have hS : (fun x : World => x.cell? ⟨xb, 0, none⟩ = some (.int .i64 (i : Int)) ∧ x.cell? ⟨xb, 1, none⟩ = some (.int .i64 (it i (h i))) ∧ x.cell? ⟨xb, 2, none⟩ = some (.bool true) ∧ x.cell? ⟨xb, 3, none⟩ = some (.int .i64 0)) W4 := ⟨cell?_of hxc rfl, cell?_of hxc rfl, cell?_of hxc rfl, cell?_of hxc rfl⟩
    have hSat : ∀ (x : World) (d : Nat), (x.cell? ⟨xb, 0, none⟩ = some (.int .i64 (i : Int)) ∧ x.cell? ⟨xb, 1, none⟩ = some (.int .i64 (it i (h i))) ∧ x.cell? ⟨xb, 2, none⟩ = some (.bool true) ∧ x.cell? ⟨xb, 3, none⟩ = some (.int .i64 0)) → ((x.at d).cell? ⟨xb, 0, none⟩ = some (.int .i64 (i : Int)) ∧ (x.at d).cell? ⟨xb, 1, none⟩ = some (.int .i64 (it i (h i))) ∧ (x.at d).cell? ⟨xb, 2, none⟩ = some (.bool true) ∧ (x.at d).cell? ⟨xb, 3, none⟩ = some (.int .i64 0)) := fun _ _ h => h
    dsimp only at hS
    clear hxc
    (refine gt_region_held (fun x => x.cell? ⟨xb, 0, none⟩ = some (.int .i64 (i : Int)) ∧ x.cell? ⟨xb, 1, none⟩ = some (.int .i64 (it i (h i))) ∧ x.cell? ⟨xb, 2, none⟩ = some (.bool true) ∧ x.cell? ⟨xb, 3, none⟩ = some (.int .i64 0)) (List.range 12) (by decide) (by first | kernel_rfl | rfl) (fun nn => ?_); simp only [List.size_toArray, List.length_cons, List.length_nil, Nat.reduceAdd, Nat.zero_add])
    (refine anyZ_take hSat (by intro _ _ _ _ x; exact x.at _) (i := 0) rfl (by first | kernel_rfl | decide +kernel) (by rfl) (by first | kernel_rfl | decide +kernel) (by first | kernel_rfl | decide +kernel) (yieldsZ_rd hI (by rfl) (fun w hw K hK => by (try simp only [Sp] at hw); (try obtain ⟨hw1, hw2⟩ := hw); (try obtain ⟨hw3, hw4⟩ := hw2); (try obtain ⟨hw5, hw6⟩ := hw4); go_simp; exact hK) (fun w hw e he => by (try simp only [Sp] at hw); (try obtain ⟨hw1, hw2⟩ := hw); (try obtain ⟨hw3, hw4⟩ := hw2); (try obtain ⟨hw5, hw6⟩ := hw4); simp [go_sem, *] at he <;> (subst he; exact ⟨_, _, _, rfl, by assumption⟩))) (by assumption) ?_; (try walk_nrm))
    (refine anyZ_take hSat (by intro _ _ _ _ x; exact x.at _) (i := 1) rfl (by first | kernel_rfl | decide +kernel) (by rfl) (by first | kernel_rfl | decide +kernel) (by first | kernel_rfl | decide +kernel) (yieldsZ_rd hI (by rfl) (fun w hw K hK => by (try simp only [Sp] at hw); (try obtain ⟨hw1, hw2⟩ := hw); (try obtain ⟨hw3, hw4⟩ := hw2); (try obtain ⟨hw5, hw6⟩ := hw4); go_simp; exact hK) (fun w hw e he => by (try simp only [Sp] at hw); (try obtain ⟨hw1, hw2⟩ := hw); (try obtain ⟨hw3, hw4⟩ := hw2); (try obtain ⟨hw5, hw6⟩ := hw4); simp [go_sem, *] at he <;> (subst he; exact ⟨_, _, _, rfl, by assumption⟩))) (by assumption) ?_; (try walk_nrm))
    (refine anyZ_take hSat (by intro _ _ _ _ x; exact x.at _) (i := 2) rfl (by first | kernel_rfl | decide +kernel) (by rfl) (by first | kernel_rfl | decide +kernel) (by first | kernel_rfl | decide +kernel) (yieldsZ_rd hI (by rfl) (fun w hw K hK => by (try simp only [Sp] at hw); (try obtain ⟨hw1, hw2⟩ := hw); (try obtain ⟨hw3, hw4⟩ := hw2); (try obtain ⟨hw5, hw6⟩ := hw4); go_simp; exact hK) (fun w hw e he => by (try simp only [Sp] at hw); (try obtain ⟨hw1, hw2⟩ := hw); (try obtain ⟨hw3, hw4⟩ := hw2); (try obtain ⟨hw5, hw6⟩ := hw4); simp [go_sem, *] at he <;> (subst he; exact ⟨_, _, _, rfl, by assumption⟩))) (by assumption) ?_; (try walk_nrm))
    (refine anyZ_take hSat (by intro _ _ _ _ x; exact x.at _) (i := 3) rfl (by first | kernel_rfl | decide +kernel) (by rfl) (by first | kernel_rfl | decide +kernel) (by first | kernel_rfl | decide +kernel) (yieldsZ_rd hI (by rfl) (fun w hw K hK => by (try simp only [Sp] at hw); (try obtain ⟨hw1, hw2⟩ := hw); (try obtain ⟨hw3, hw4⟩ := hw2); (try obtain ⟨hw5, hw6⟩ := hw4); go_simp; exact hK) (fun w hw e he => by (try simp only [Sp] at hw); (try obtain ⟨hw1, hw2⟩ := hw); (try obtain ⟨hw3, hw4⟩ := hw2); (try obtain ⟨hw5, hw6⟩ := hw4); simp [go_sem, *] at he <;> (subst he; exact ⟨_, _, _, rfl, by assumption⟩))) (by assumption) ?_; (try walk_nrm))
    (refine anyZ_take hSat (by intro _ _ _ _ x; exact x.at _) (i := 4) rfl (by first | kernel_rfl | decide +kernel) (by rfl) (by first | kernel_rfl | decide +kernel) (by first | kernel_rfl | decide +kernel) (yieldsZ_rd hI (by rfl) (fun w hw K hK => by (try simp only [Sp] at hw); (try obtain ⟨hw1, hw2⟩ := hw); (try obtain ⟨hw3, hw4⟩ := hw2); (try obtain ⟨hw5, hw6⟩ := hw4); go_simp; exact hK) (fun w hw e he => by (try simp only [Sp] at hw); (try obtain ⟨hw1, hw2⟩ := hw); (try obtain ⟨hw3, hw4⟩ := hw2); (try obtain ⟨hw5, hw6⟩ := hw4); simp [go_sem, *] at he <;> (subst he; exact ⟨_, _, _, rfl, by assumption⟩))) (by assumption) ?_; (try walk_nrm))
    (refine anyZ_take hSat (by intro _ _ _ _ x; exact x.at _) (i := 5) rfl (by first | kernel_rfl | decide +kernel) (by rfl) (by first | kernel_rfl | decide +kernel) (by first | kernel_rfl | decide +kernel) (yieldsZ_rd hI (by rfl) (fun w hw K hK => by (try simp only [Sp] at hw); (try obtain ⟨hw1, hw2⟩ := hw); (try obtain ⟨hw3, hw4⟩ := hw2); (try obtain ⟨hw5, hw6⟩ := hw4); go_simp; exact hK) (fun w hw e he => by (try simp only [Sp] at hw); (try obtain ⟨hw1, hw2⟩ := hw); (try obtain ⟨hw3, hw4⟩ := hw2); (try obtain ⟨hw5, hw6⟩ := hw4); simp [go_sem, *] at he <;> (subst he; exact ⟨_, _, _, rfl, by assumption⟩))) (by assumption) ?_; (try walk_nrm))
    (refine anyZ_take hSat (by intro _ _ _ _ x; exact x.at _) (i := 6) rfl (by first | kernel_rfl | decide +kernel) (by rfl) (by first | kernel_rfl | decide +kernel) (by first | kernel_rfl | decide +kernel) (yieldsZ_rd hI (by rfl) (fun w hw K hK => by (try simp only [Sp] at hw); (try obtain ⟨hw1, hw2⟩ := hw); (try obtain ⟨hw3, hw4⟩ := hw2); (try obtain ⟨hw5, hw6⟩ := hw4); go_simp; exact hK) (fun w hw e he => by (try simp only [Sp] at hw); (try obtain ⟨hw1, hw2⟩ := hw); (try obtain ⟨hw3, hw4⟩ := hw2); (try obtain ⟨hw5, hw6⟩ := hw4); simp [go_sem, *] at he <;> (subst he; exact ⟨_, _, _, rfl, by assumption⟩))) (by assumption) ?_; (try walk_nrm))
    (refine anyZ_take hSat (by intro _ _ _ _ x; exact x.at _) (i := 7) rfl (by first | kernel_rfl | decide +kernel) (by rfl) (by first | kernel_rfl | decide +kernel) (by first | kernel_rfl | decide +kernel) (yieldsZ_rd hI (by rfl) (fun w hw K hK => by (try simp only [Sp] at hw); (try obtain ⟨hw1, hw2⟩ := hw); (try obtain ⟨hw3, hw4⟩ := hw2); (try obtain ⟨hw5, hw6⟩ := hw4); go_simp; exact hK) (fun w hw e he => by (try simp only [Sp] at hw); (try obtain ⟨hw1, hw2⟩ := hw); (try obtain ⟨hw3, hw4⟩ := hw2); (try obtain ⟨hw5, hw6⟩ := hw4); simp [go_sem, *] at he <;> (subst he; exact ⟨_, _, _, rfl, by assumption⟩))) (by assumption) ?_; (try walk_nrm))
    (refine anyZ_take hSat (by intro _ _ _ _ x; exact x.at _) (i := 8) rfl (by first | kernel_rfl | decide +kernel) (by rfl) (by first | kernel_rfl | decide +kernel) (by first | kernel_rfl | decide +kernel) (yieldsZ_rd hI (by rfl) (fun w hw K hK => by (try simp only [Sp] at hw); (try obtain ⟨hw1, hw2⟩ := hw); (try obtain ⟨hw3, hw4⟩ := hw2); (try obtain ⟨hw5, hw6⟩ := hw4); go_simp; exact hK) (fun w hw e he => by (try simp only [Sp] at hw); (try obtain ⟨hw1, hw2⟩ := hw); (try obtain ⟨hw3, hw4⟩ := hw2); (try obtain ⟨hw5, hw6⟩ := hw4); simp [go_sem, *] at he <;> (subst he; exact ⟨_, _, _, rfl, by assumption⟩))) (by assumption) ?_; (try walk_nrm))
    (refine anyZ_take hSat (by intro _ _ _ _ x; exact x.at _) (i := 9) rfl (by first | kernel_rfl | decide +kernel) (by rfl) (by first | kernel_rfl | decide +kernel) (by first | kernel_rfl | decide +kernel) (yieldsZ_rd hI (by rfl) (fun w hw K hK => by (try simp only [Sp] at hw); (try obtain ⟨hw1, hw2⟩ := hw); (try obtain ⟨hw3, hw4⟩ := hw2); (try obtain ⟨hw5, hw6⟩ := hw4); go_simp; exact hK) (fun w hw e he => by (try simp only [Sp] at hw); (try obtain ⟨hw1, hw2⟩ := hw); (try obtain ⟨hw3, hw4⟩ := hw2); (try obtain ⟨hw5, hw6⟩ := hw4); simp [go_sem, *] at he <;> (subst he; exact ⟨_, _, _, rfl, by assumption⟩))) (by assumption) ?_; (try walk_nrm))
    (refine anyZ_take hSat (by intro _ _ _ _ x; exact x.at _) (i := 10) rfl (by first | kernel_rfl | decide +kernel) (by rfl) (by first | kernel_rfl | decide +kernel) (by first | kernel_rfl | decide +kernel) (yieldsZ_rd hI (by rfl) (fun w hw K hK => by (try simp only [Sp] at hw); (try obtain ⟨hw1, hw2⟩ := hw); (try obtain ⟨hw3, hw4⟩ := hw2); (try obtain ⟨hw5, hw6⟩ := hw4); go_simp; exact hK) (fun w hw e he => by (try simp only [Sp] at hw); (try obtain ⟨hw1, hw2⟩ := hw); (try obtain ⟨hw3, hw4⟩ := hw2); (try obtain ⟨hw5, hw6⟩ := hw4); simp [go_sem, *] at he <;> (subst he; exact ⟨_, _, _, rfl, by assumption⟩))) (by assumption) ?_; (try walk_nrm))
    (refine anyZ_take hSat (by intro _ _ _ _ x; exact x.at _) (i := 11) rfl (by first | kernel_rfl | decide +kernel) (by rfl) (by first | kernel_rfl | decide +kernel) (by first | kernel_rfl | decide +kernel) (yieldsZ_rd hI (by rfl) (fun w hw K hK => by (try simp only [Sp] at hw); (try obtain ⟨hw1, hw2⟩ := hw); (try obtain ⟨hw3, hw4⟩ := hw2); (try obtain ⟨hw5, hw6⟩ := hw4); go_simp; exact hK) (fun w hw e he => by (try simp only [Sp] at hw); (try obtain ⟨hw1, hw2⟩ := hw); (try obtain ⟨hw3, hw4⟩ := hw2); (try obtain ⟨hw5, hw6⟩ := hw4); simp [go_sem, *] at he <;> (subst he; exact ⟨_, _, _, rfl, by assumption⟩))) (by assumption) ?_; (try walk_nrm))
    refine anyZ_done (by first | kernel_rfl | decide +kernel) ?_ _
    exact gt_return rfl Try.func38 (resultsC_tmp4 rfl _)  ⟨i, d, hi, hlt, hd, hidx.out, hpast'.out, rfl, ⟨_, by push_cast; exact hB4.out⟩, hkW⟩
  · exact absurd (hall j0 hj0) (by omega)
set_option maxHeartbeats 1000000 in
set_option maxRecDepth 20000 in
theorem try_T {R : Nat → Pipe} {n bell tick c lb cap : Nat} {it : Nat → Nat → Int} {w : World} {h t : Nat → Nat} {bv : Int} {kk : Nat} (B : Bench R n bell tick c lb it w h t bv (kk : Int)) (hn : 1 ≤ n) (hn9 : n ≤ 100) (hkk : kk < 2 ^ 30) :
    CallT Try.prog 39 #[.pointer (some ⟨c, 0, none⟩), .pointer none, .slice (some ⟨lb, 0, none⟩) n cap] w fun x W =>
      ((∃ i : Nat, ∃ v, i < n ∧ h i < t i ∧ x = .tuple #[.int .i64 (i : Int), .int .i64 v, .bool true, .int .i64 0]) ∨ ((∀ j, j < n → h j = t j) ∧ x = .tuple #[.int .i64 (-1), .int .i64 0, .bool false, .int .i64 0])) ∧
        Keeps w W (fun b => b = tick ∨ b = bell ∨ ∃ j, j < n ∧ (R j).own b) := by
  have hk1 : IntKind.i64.wrap ((kk : Int) + 1) = kk + 1 := wraps_i64 _ (by omega) (by omega)
  have hrf := B.refused (cap := cap) hn hn9
  have B' := Lib.hid B
  clear B
  refine callT_of Try.func39 rfl fun c' cs => ?_
  simp only [Try.ntmps39, List.size_toArray, List.length_cons, List.length_nil, Nat.reduceAdd, Nat.reduceSub, Array.replicate_succ, Array.replicate_zero, List.push_toArray, List.append_toArray, List.nil_append, List.cons_append]
  (repeat (first | (first | refine gt_seq ?_ | refine gt_block ?_ | refine gt_region_end ?_ | refine gt_skip ?_ | refine gt_inBlock ?_ | refine gt_label ?_ | refine gt_scope ?_ | refine gt_inScope ?_ | refine gt_exit rfl ?_) | (refine gt_region ?_; simp only [List.size_toArray, List.length_cons, List.length_nil, Nat.reduceAdd, Nat.zero_add, List.range, List.range.loop]) | (refine gt_op rfl (by rfl) (by rfl) (by decide) (fun dd K hK => ?_); go_simp; refine hK _ _ ?_; clear hK K; (try walk_nrm); (try simp only [at_at', alloc_at', setCell_at']); refine Gt.at ?_ _) | (refine gt_unwanted rfl (by rfl) ?_; try walk_nrm) | (first | refine gt_cond_t rfl ?_ | refine gt_cond_f rfl ?_)))
  refine gt_callf rfl (by rfl) (by decide) rfl rfl Try.func132 (by rfl) rfl (hrf) (by simp [Act.eval]) ?_
  clear hrf
  rintro _ W1 ⟨rfl, hkp⟩
  walk_nrm
  have B1 := B'.out.kept hkp
  have c1 : W1.cell? ⟨c, 1, none⟩ = some (.pointer (some ⟨tick, 0, none⟩)) := cell?_of B1.cO rfl
  have had := add_T B1.tickC 1
  rw [hk1] at had
  have B2 := B1.tick ((kk : Int) + 1)
  have hkp2 : Keeps w (W1.setCell ⟨tick, 0, none⟩ (.int .i64 ((kk : Int) + 1))) (fun b => b = tick ∨ b = bell ∨ ∃ j, j < n ∧ (R j).own b) := (hkp.more fun _ _ x => x.elim).trans (Keeps.set _ _ (.inl rfl))
  have B1' := Lib.hid B1
  clear B1
  (repeat (first | (first | refine gt_seq ?_ | refine gt_block ?_ | refine gt_region_end ?_ | refine gt_skip ?_ | refine gt_inBlock ?_ | refine gt_label ?_ | refine gt_scope ?_ | refine gt_inScope ?_ | refine gt_exit rfl ?_) | (refine gt_region ?_; simp only [List.size_toArray, List.length_cons, List.length_nil, Nat.reduceAdd, Nat.zero_add, List.range, List.range.loop]) | (refine gt_op rfl (by rfl) (by rfl) (by decide) (fun dd K hK => ?_); go_simp; refine hK _ _ ?_; clear hK K; (try walk_nrm); (try simp only [at_at', alloc_at', setCell_at']); refine Gt.at ?_ _) | (refine gt_unwanted rfl (by rfl) ?_; try walk_nrm) | (first | refine gt_cond_t rfl ?_ | refine gt_cond_f rfl ?_)))
  refine gt_callf rfl (by rfl) (by decide) rfl rfl Try.func102 (by rfl) rfl (had) (by simp [Act.eval]) ?_
  clear had c1
  rintro _ W' ⟨rfl, e'⟩; subst W'
  generalize W1.setCell ⟨tick, 0, none⟩ (.int .i64 ((kk : Int) + 1)) = W2 at *
  walk_nrm
  have hlk := look_T B2 (cap := cap) hn hn9 kk (by omega)
  have B2' := Lib.hid B2
  clear B2
  (repeat (first | (first | refine gt_seq ?_ | refine gt_block ?_ | refine gt_region_end ?_ | refine gt_skip ?_ | refine gt_inBlock ?_ | refine gt_label ?_ | refine gt_scope ?_ | refine gt_inScope ?_ | refine gt_exit rfl ?_) | (refine gt_region ?_; simp only [List.size_toArray, List.length_cons, List.length_nil, Nat.reduceAdd, Nat.zero_add, List.range, List.range.loop]) | (refine gt_op rfl (by rfl) (by rfl) (by decide) (fun dd K hK => ?_); go_simp; refine hK _ _ ?_; clear hK K; (try walk_nrm); (try simp only [at_at', alloc_at', setCell_at']); refine Gt.at ?_ _) | (refine gt_unwanted rfl (by rfl) ?_; try walk_nrm) | (first | refine gt_cond_t rfl ?_ | refine gt_cond_f rfl ?_)))
  refine gt_callf rfl (by rfl) (by decide) rfl rfl Try.func133 (by rfl) rfl (hlk) (by simp [Act.eval]) ?_
  clear hlk
  rintro x W3 hx
  obtain ⟨i, v, ok, rfl, hres⟩ : ∃ (i v : Int) (ok : Bool), x = .tuple #[.agg #[.int .i64 i, .int .i64 v, .bool ok, .int .i64 0], .bool ok] ∧ ((∃ i0 : Nat, i0 < n ∧ h i0 < t i0 ∧ i = i0 ∧ ok = true) ∨ ((∀ j, j < n → h j = t j) ∧ i = -1 ∧ v = 0 ∧ ok = false)) := by
    rcases hx with ⟨i, d, hi, hlt, hd, hid, hpast, rfl, hk3, hB3⟩ | ⟨hall, rfl, _⟩
    · exact ⟨_, _, _, rfl, .inl ⟨i, hi, hlt, rfl, rfl⟩⟩
    · exact ⟨_, _, _, rfl, .inr ⟨hall, rfl, rfl, rfl⟩⟩
  have hk3 : Keeps w W3 (fun b => b = tick ∨ b = bell ∨ ∃ j, j < n ∧ (R j).own b) := by
    rcases hx with ⟨i, d, hi, hlt, hd, hid, hpast, _, hk3, hB3⟩ | ⟨hall, _, hk3⟩
    · exact hkp2.trans (hk3.more fun b _ hb => hb.elim (fun x => .inr (.inr ⟨i, hi, x⟩)) fun x => .inr (.inl x))
    · exact hkp2.trans (hk3.more fun _ _ x => x.elim)
  have hres' := Lib.hid hres
  clear hx hres hkp2
  walk_nrm
  (repeat (first | (first | refine gt_seq ?_ | refine gt_block ?_ | refine gt_region_end ?_ | refine gt_skip ?_ | refine gt_inBlock ?_ | refine gt_label ?_ | refine gt_scope ?_ | refine gt_inScope ?_ | refine gt_exit rfl ?_) | (refine gt_region ?_; simp only [List.size_toArray, List.length_cons, List.length_nil, Nat.reduceAdd, Nat.zero_add, List.range, List.range.loop]) | (refine gt_op rfl (by rfl) (by rfl) (by decide) (fun dd K hK => ?_); go_simp; refine hK _ _ ?_; clear hK K; (try walk_nrm); (try simp only [at_at', alloc_at', setCell_at']); refine Gt.at ?_ _) | (refine gt_unwanted rfl (by rfl) ?_; try walk_nrm) | (first | refine gt_cond_t rfl ?_ | refine gt_cond_f rfl ?_)))
  refine gt_gen (fun W' => Keeps w W' (fun b => b = tick ∨ b = bell ∨ ∃ j, j < n ∧ (R j).own b) ∧ W'.heap[W3.heap.size]? = some (foundO (.int .i64 i) (.int .i64 v) (.bool ok) (.int .i64 0))) ⟨hk3.trans (Keeps.alloc _ _ _), heap_alloc_new' _ _⟩ ?_
  rintro W4 ⟨hk4, hxc⟩
  clear hk3
  generalize W3.heap.size = xb at *
  have hI := di_T
  have hS : (fun x : World => x.cell? ⟨xb, 0, none⟩ = some (.int .i64 i) ∧ x.cell? ⟨xb, 1, none⟩ = some (.int .i64 v) ∧ x.cell? ⟨xb, 2, none⟩ = some (.bool ok) ∧ x.cell? ⟨xb, 3, none⟩ = some (.int .i64 0)) W4 := ⟨cell?_of hxc rfl, cell?_of hxc rfl, cell?_of hxc rfl, cell?_of hxc rfl⟩
  have hSat : ∀ (x : World) (d : Nat), (x.cell? ⟨xb, 0, none⟩ = some (.int .i64 i) ∧ x.cell? ⟨xb, 1, none⟩ = some (.int .i64 v) ∧ x.cell? ⟨xb, 2, none⟩ = some (.bool ok) ∧ x.cell? ⟨xb, 3, none⟩ = some (.int .i64 0)) → ((x.at d).cell? ⟨xb, 0, none⟩ = some (.int .i64 i) ∧ (x.at d).cell? ⟨xb, 1, none⟩ = some (.int .i64 v) ∧ (x.at d).cell? ⟨xb, 2, none⟩ = some (.bool ok) ∧ (x.at d).cell? ⟨xb, 3, none⟩ = some (.int .i64 0)) := fun _ _ h => h
  dsimp only at hS
  clear hxc
  (refine gt_region_held (fun x => x.cell? ⟨xb, 0, none⟩ = some (.int .i64 i) ∧ x.cell? ⟨xb, 1, none⟩ = some (.int .i64 v) ∧ x.cell? ⟨xb, 2, none⟩ = some (.bool ok) ∧ x.cell? ⟨xb, 3, none⟩ = some (.int .i64 0)) (List.range 12) (by decide) (by first | kernel_rfl | rfl) (fun nn => ?_); simp only [List.size_toArray, List.length_cons, List.length_nil, Nat.reduceAdd, Nat.zero_add])
  (refine anyZ_take hSat (by intro _ _ _ _ x; exact x.at _) (i := 0) rfl (by first | kernel_rfl | decide +kernel) (by rfl) (by first | kernel_rfl | decide +kernel) (by first | kernel_rfl | decide +kernel) (yieldsZ_rd hI (by rfl) (fun w hw K hK => by (try simp only [Sp] at hw); (try obtain ⟨hw1, hw2⟩ := hw); (try obtain ⟨hw3, hw4⟩ := hw2); (try obtain ⟨hw5, hw6⟩ := hw4); go_simp; exact hK) (fun w hw e he => by (try simp only [Sp] at hw); (try obtain ⟨hw1, hw2⟩ := hw); (try obtain ⟨hw3, hw4⟩ := hw2); (try obtain ⟨hw5, hw6⟩ := hw4); simp [go_sem, *] at he <;> (subst he; exact ⟨_, _, _, rfl, by assumption⟩))) (by assumption) ?_; (try walk_nrm))
  (refine anyZ_take hSat (by intro _ _ _ _ x; exact x.at _) (i := 1) rfl (by first | kernel_rfl | decide +kernel) (by rfl) (by first | kernel_rfl | decide +kernel) (by first | kernel_rfl | decide +kernel) (yieldsZ_rd hI (by rfl) (fun w hw K hK => by (try simp only [Sp] at hw); (try obtain ⟨hw1, hw2⟩ := hw); (try obtain ⟨hw3, hw4⟩ := hw2); (try obtain ⟨hw5, hw6⟩ := hw4); go_simp; exact hK) (fun w hw e he => by (try simp only [Sp] at hw); (try obtain ⟨hw1, hw2⟩ := hw); (try obtain ⟨hw3, hw4⟩ := hw2); (try obtain ⟨hw5, hw6⟩ := hw4); simp [go_sem, *] at he <;> (subst he; exact ⟨_, _, _, rfl, by assumption⟩))) (by assumption) ?_; (try walk_nrm))
  (refine anyZ_take hSat (by intro _ _ _ _ x; exact x.at _) (i := 2) rfl (by first | kernel_rfl | decide +kernel) (by rfl) (by first | kernel_rfl | decide +kernel) (by first | kernel_rfl | decide +kernel) (yieldsZ_rd hI (by rfl) (fun w hw K hK => by (try simp only [Sp] at hw); (try obtain ⟨hw1, hw2⟩ := hw); (try obtain ⟨hw3, hw4⟩ := hw2); (try obtain ⟨hw5, hw6⟩ := hw4); go_simp; exact hK) (fun w hw e he => by (try simp only [Sp] at hw); (try obtain ⟨hw1, hw2⟩ := hw); (try obtain ⟨hw3, hw4⟩ := hw2); (try obtain ⟨hw5, hw6⟩ := hw4); simp [go_sem, *] at he <;> (subst he; exact ⟨_, _, _, rfl, by assumption⟩))) (by assumption) ?_; (try walk_nrm))
  (refine anyZ_take hSat (by intro _ _ _ _ x; exact x.at _) (i := 3) rfl (by first | kernel_rfl | decide +kernel) (by rfl) (by first | kernel_rfl | decide +kernel) (by first | kernel_rfl | decide +kernel) (yieldsZ_rd hI (by rfl) (fun w hw K hK => by (try simp only [Sp] at hw); (try obtain ⟨hw1, hw2⟩ := hw); (try obtain ⟨hw3, hw4⟩ := hw2); (try obtain ⟨hw5, hw6⟩ := hw4); go_simp; exact hK) (fun w hw e he => by (try simp only [Sp] at hw); (try obtain ⟨hw1, hw2⟩ := hw); (try obtain ⟨hw3, hw4⟩ := hw2); (try obtain ⟨hw5, hw6⟩ := hw4); simp [go_sem, *] at he <;> (subst he; exact ⟨_, _, _, rfl, by assumption⟩))) (by assumption) ?_; (try walk_nrm))
  (refine anyZ_take hSat (by intro _ _ _ _ x; exact x.at _) (i := 4) rfl (by first | kernel_rfl | decide +kernel) (by rfl) (by first | kernel_rfl | decide +kernel) (by first | kernel_rfl | decide +kernel) (yieldsZ_rd hI (by rfl) (fun w hw K hK => by (try simp only [Sp] at hw); (try obtain ⟨hw1, hw2⟩ := hw); (try obtain ⟨hw3, hw4⟩ := hw2); (try obtain ⟨hw5, hw6⟩ := hw4); go_simp; exact hK) (fun w hw e he => by (try simp only [Sp] at hw); (try obtain ⟨hw1, hw2⟩ := hw); (try obtain ⟨hw3, hw4⟩ := hw2); (try obtain ⟨hw5, hw6⟩ := hw4); simp [go_sem, *] at he <;> (subst he; exact ⟨_, _, _, rfl, by assumption⟩))) (by assumption) ?_; (try walk_nrm))
  (refine anyZ_take hSat (by intro _ _ _ _ x; exact x.at _) (i := 5) rfl (by first | kernel_rfl | decide +kernel) (by rfl) (by first | kernel_rfl | decide +kernel) (by first | kernel_rfl | decide +kernel) (yieldsZ_rd hI (by rfl) (fun w hw K hK => by (try simp only [Sp] at hw); (try obtain ⟨hw1, hw2⟩ := hw); (try obtain ⟨hw3, hw4⟩ := hw2); (try obtain ⟨hw5, hw6⟩ := hw4); go_simp; exact hK) (fun w hw e he => by (try simp only [Sp] at hw); (try obtain ⟨hw1, hw2⟩ := hw); (try obtain ⟨hw3, hw4⟩ := hw2); (try obtain ⟨hw5, hw6⟩ := hw4); simp [go_sem, *] at he <;> (subst he; exact ⟨_, _, _, rfl, by assumption⟩))) (by assumption) ?_; (try walk_nrm))
  (refine anyZ_take hSat (by intro _ _ _ _ x; exact x.at _) (i := 6) rfl (by first | kernel_rfl | decide +kernel) (by rfl) (by first | kernel_rfl | decide +kernel) (by first | kernel_rfl | decide +kernel) (yieldsZ_rd hI (by rfl) (fun w hw K hK => by (try simp only [Sp] at hw); (try obtain ⟨hw1, hw2⟩ := hw); (try obtain ⟨hw3, hw4⟩ := hw2); (try obtain ⟨hw5, hw6⟩ := hw4); go_simp; exact hK) (fun w hw e he => by (try simp only [Sp] at hw); (try obtain ⟨hw1, hw2⟩ := hw); (try obtain ⟨hw3, hw4⟩ := hw2); (try obtain ⟨hw5, hw6⟩ := hw4); simp [go_sem, *] at he <;> (subst he; exact ⟨_, _, _, rfl, by assumption⟩))) (by assumption) ?_; (try walk_nrm))
  (refine anyZ_take hSat (by intro _ _ _ _ x; exact x.at _) (i := 7) rfl (by first | kernel_rfl | decide +kernel) (by rfl) (by first | kernel_rfl | decide +kernel) (by first | kernel_rfl | decide +kernel) (yieldsZ_rd hI (by rfl) (fun w hw K hK => by (try simp only [Sp] at hw); (try obtain ⟨hw1, hw2⟩ := hw); (try obtain ⟨hw3, hw4⟩ := hw2); (try obtain ⟨hw5, hw6⟩ := hw4); go_simp; exact hK) (fun w hw e he => by (try simp only [Sp] at hw); (try obtain ⟨hw1, hw2⟩ := hw); (try obtain ⟨hw3, hw4⟩ := hw2); (try obtain ⟨hw5, hw6⟩ := hw4); simp [go_sem, *] at he <;> (subst he; exact ⟨_, _, _, rfl, by assumption⟩))) (by assumption) ?_; (try walk_nrm))
  (refine anyZ_take hSat (by intro _ _ _ _ x; exact x.at _) (i := 8) rfl (by first | kernel_rfl | decide +kernel) (by rfl) (by first | kernel_rfl | decide +kernel) (by first | kernel_rfl | decide +kernel) (yieldsZ_rd hI (by rfl) (fun w hw K hK => by (try simp only [Sp] at hw); (try obtain ⟨hw1, hw2⟩ := hw); (try obtain ⟨hw3, hw4⟩ := hw2); (try obtain ⟨hw5, hw6⟩ := hw4); go_simp; exact hK) (fun w hw e he => by (try simp only [Sp] at hw); (try obtain ⟨hw1, hw2⟩ := hw); (try obtain ⟨hw3, hw4⟩ := hw2); (try obtain ⟨hw5, hw6⟩ := hw4); simp [go_sem, *] at he <;> (subst he; exact ⟨_, _, _, rfl, by assumption⟩))) (by assumption) ?_; (try walk_nrm))
  (refine anyZ_take hSat (by intro _ _ _ _ x; exact x.at _) (i := 9) rfl (by first | kernel_rfl | decide +kernel) (by rfl) (by first | kernel_rfl | decide +kernel) (by first | kernel_rfl | decide +kernel) (yieldsZ_rd hI (by rfl) (fun w hw K hK => by (try simp only [Sp] at hw); (try obtain ⟨hw1, hw2⟩ := hw); (try obtain ⟨hw3, hw4⟩ := hw2); (try obtain ⟨hw5, hw6⟩ := hw4); go_simp; exact hK) (fun w hw e he => by (try simp only [Sp] at hw); (try obtain ⟨hw1, hw2⟩ := hw); (try obtain ⟨hw3, hw4⟩ := hw2); (try obtain ⟨hw5, hw6⟩ := hw4); simp [go_sem, *] at he <;> (subst he; exact ⟨_, _, _, rfl, by assumption⟩))) (by assumption) ?_; (try walk_nrm))
  (refine anyZ_take hSat (by intro _ _ _ _ x; exact x.at _) (i := 10) rfl (by first | kernel_rfl | decide +kernel) (by rfl) (by first | kernel_rfl | decide +kernel) (by first | kernel_rfl | decide +kernel) (yieldsZ_rd hI (by rfl) (fun w hw K hK => by (try simp only [Sp] at hw); (try obtain ⟨hw1, hw2⟩ := hw); (try obtain ⟨hw3, hw4⟩ := hw2); (try obtain ⟨hw5, hw6⟩ := hw4); go_simp; exact hK) (fun w hw e he => by (try simp only [Sp] at hw); (try obtain ⟨hw1, hw2⟩ := hw); (try obtain ⟨hw3, hw4⟩ := hw2); (try obtain ⟨hw5, hw6⟩ := hw4); simp [go_sem, *] at he <;> (subst he; exact ⟨_, _, _, rfl, by assumption⟩))) (by assumption) ?_; (try walk_nrm))
  (refine anyZ_take hSat (by intro _ _ _ _ x; exact x.at _) (i := 11) rfl (by first | kernel_rfl | decide +kernel) (by rfl) (by first | kernel_rfl | decide +kernel) (by first | kernel_rfl | decide +kernel) (yieldsZ_rd hI (by rfl) (fun w hw K hK => by (try simp only [Sp] at hw); (try obtain ⟨hw1, hw2⟩ := hw); (try obtain ⟨hw3, hw4⟩ := hw2); (try obtain ⟨hw5, hw6⟩ := hw4); go_simp; exact hK) (fun w hw e he => by (try simp only [Sp] at hw); (try obtain ⟨hw1, hw2⟩ := hw); (try obtain ⟨hw3, hw4⟩ := hw2); (try obtain ⟨hw5, hw6⟩ := hw4); simp [go_sem, *] at he <;> (subst he; exact ⟨_, _, _, rfl, by assumption⟩))) (by assumption) ?_; (try walk_nrm))
  refine anyZ_done (by first | kernel_rfl | decide +kernel) ?_ _
  exact gt_return rfl Try.func39 (resultsC_tmp4 rfl _)  ⟨(by
    rcases hres'.out with ⟨i0, h1, h2, rfl, rfl⟩ | ⟨h1, rfl, rfl, rfl⟩
    · exact .inl ⟨i0, v, h1, h2, rfl⟩
    · exact .inr ⟨h1, rfl⟩), hk4⟩
end Go.Proofs.Ytekmbijlaonnmaa.Z
