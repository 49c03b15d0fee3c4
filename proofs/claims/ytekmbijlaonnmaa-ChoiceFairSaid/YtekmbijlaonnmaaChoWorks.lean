/-
  treadlelaw21.works: two cases, taken in turns.
-/
import Derived.Test.YtekmbijlaonnmaaChoSel
set_option linter.unusedSimpArgs false
set_option linter.unusedVariables false
namespace Go.Proofs.Ytekmbijlaonnmaa.Z
open Go.Conc
theorem pipe_new_T (w : World) (N m bell : Nat) (hN : N = 2 ^ m) (hm1 : 1 ≤ m) (hm : m ≤ 12) (hb : bell < w.heap.size) (h3 : bits .and .i64 (N : Int) (IntKind.i64.wrap ((N : Int) - 1)) = 0) :
    CallT Try.prog 36 #[.int .i64 (N : Int), .pointer (some ⟨bell, 0, none⟩)] w fun x W => ∃ R : Pipe, x = .tuple #[.pointer (some ⟨R.p, 0, none⟩), .int .i64 0] ∧ PipeIs R W val0 ∧ R.N = N ∧ R.bell = bell ∧ R.lo = w.heap.size ∧ R.hi = W.heap.size ∧ Keeps w W (fun _ => False) := by
  have h1 : 2 ^ 1 ≤ 2 ^ m := Nat.pow_le_pow_right (by decide) hm1
  have h2 : 2 ^ m ≤ 2 ^ 12 := Nat.pow_le_pow_right (by decide) hm
  refine CallT.of fun n => (pipe_new true n w N bell (by omega) (by omega) h3).mono fun x W _ ⟨_, hx, sv, blk, hH⟩ => ?_
  obtain ⟨R, a, b, c, d, e, f⟩ := hH.pipe hN hm1 hm hb
  exact ⟨R, by rw [d]; exact hx, a, b, c, e, f, hH.keeps⟩
theorem Keeps.above {w W W' : World} {S : Nat → Prop} (h : Keeps w W (fun _ => False)) (k : Keeps W W' S) (hS : ∀ b, S b → w.heap.size ≤ b) : Keeps w W' (fun _ => False) :=
  ⟨Nat.le_trans h.size k.size, k.os.trans h.os, fun b hb _ => (k.old b (Nat.lt_of_lt_of_le hb h.size) fun x => by have := hS b x; omega).trans (h.old b hb fun x => x)⟩
/-- Pipes of one bell. -/
instance : Inhabited Pipe := ⟨⟨0, 0, 0, 0, 0, 0, 0, 0, id⟩⟩
structure Pipes (R : Nat → Pipe) (n bell : Nat) (it : Nat → Nat → Int) (w : World) (h t : Nat → Nat) (bv : Int) : Prop where
  pipes : ∀ j, j < n → ∃ val, PipeIs (R j) w val ∧ PQ (R j).N val (h j) (t j) (it j)
  bells : ∀ j, j < n → (R j).bell = bell
  order : ∀ i j, i < j → j < n → (R i).hi ≤ (R j).lo
  hiLe : ∀ j, j < n → (R j).hi ≤ w.heap.size
  bellC : CellB w bell bv
section
variable {R : Nat → Pipe} {n bell : Nat} {it : Nat → Nat → Int} {w W : World} {h t : Nat → Nat} {bv : Int}
theorem Pipes.zero {R : Nat → Pipe} (hb : CellB w bell bv) : Pipes R 0 bell it w h t bv := ⟨fun _ h => absurd h (Nat.not_lt_zero _), fun _ h => absurd h (Nat.not_lt_zero _), fun _ _ _ h => absurd h (Nat.not_lt_zero _), fun _ h => absurd h (Nat.not_lt_zero _), hb⟩
theorem Pipes.kept (B : Pipes R n bell it w h t bv) {S : Nat → Prop} (hk : Keeps w W S) (hS : ∀ b, S b → b ≠ bell ∧ ∀ j, j < n → ¬ (R j).own b) : Pipes R n bell it W h t bv :=
  ⟨fun j hj => let ⟨val, a, b⟩ := B.pipes j hj; ⟨val, a.kept hk fun x hx hs => (hS x hs).2 j hj hx, b⟩, B.bells, B.order, fun j hj => Nat.le_trans (B.hiLe j hj) hk.size, hk.heap B.bellC fun x => (hS _ x).1 rfl⟩
theorem Pipes.kept0 (B : Pipes R n bell it w h t bv) (hk : Keeps w W (fun _ => False)) : Pipes R n bell it W h t bv := B.kept hk fun _ h => h.elim
theorem Pipes.add (B : Pipes R n bell it w h t bv) {R' : Pipe} (hk : Keeps w W (fun _ => False)) (hP : PipeIs R' W val0) (hb : R'.bell = bell) (hlo : R'.lo = w.heap.size) (hhi : R'.hi = W.heap.size) :
    Pipes (fun j => if j = n then R' else R j) (n + 1) bell it W (fun j => if j = n then 0 else h j) (fun j => if j = n then 0 else t j) bv := by
  have B' := B.kept0 hk
  refine ⟨fun j hj => ?_, fun j hj => ?_, fun i j hij hj => ?_, fun j hj => ?_, B'.bellC⟩
  · by_cases e : j = n
    · subst e; simp only [if_true]; exact ⟨_, hP, PQ.new _ _⟩
    · simp only [if_neg e]; exact B'.pipes j (by omega)
  · by_cases e : j = n
    · subst e; simp only [if_true]; exact hb
    · simp only [if_neg e]; exact B'.bells j (by omega)
  · have ei : i ≠ n := by omega
    simp only [if_neg ei]
    by_cases e : j = n
    · subst e; simp only [if_true]; rw [hlo]; exact B.hiLe i (by omega)
    · simp only [if_neg e]; exact B.order i j hij (by omega)
  · by_cases e : j = n
    · subst e; simp only [if_true]; rw [hhi]; exact Nat.le_refl _
    · simp only [if_neg e]; exact B'.hiLe j (by omega)
theorem Pipes.above (B : Pipes R n bell it w h t bv) {j b : Nat} (hj : j < n) (hb : (R j).own b) : bell < b := by
  obtain ⟨_, hP, _⟩ := B.pipes j hj
  have := hP.bellOut
  have := hb.1
  rw [B.bells j hj] at *
  omega
theorem Pipes.congr (B : Pipes R n bell it w h t bv) {h' t' : Nat → Nat} {R' : Nat → Pipe} (h1 : ∀ j, j < n → h' j = h j) (h2 : ∀ j, j < n → t' j = t j) (h3 : ∀ j, j < n → R' j = R j) : Pipes R' n bell it w h' t' bv :=
  ⟨fun j hj => by rw [h1 j hj, h2 j hj, h3 j hj]; exact B.pipes j hj, fun j hj => by rw [h3 j hj]; exact B.bells j hj, fun i j hi hj => by rw [h3 i (by omega), h3 j hj]; exact B.order i j hi hj, fun j hj => by rw [h3 j hj]; exact B.hiLe j hj, B.bellC⟩
theorem Pipes.apart (B : Pipes R n bell it w h t bv) {i j : Nat} (hi : i < n) (hj : j < n) (hne : i ≠ j) {b : Nat} (h1 : (R i).own b) : ¬ (R j).own b := fun h2 => by
  obtain ⟨_, hP, _⟩ := B.pipes i hi
  obtain ⟨_, hQ, _⟩ := B.pipes j hj
  rcases Nat.lt_or_gt_of_ne hne with x | x
  · have := B.order i j x hj; have := h1.2; have := h2.1; omega
  · have := B.order j i x hi; have := h2.2; have := h1.1; omega
theorem Pipes.turn (B : Pipes R n bell it w h t bv) {i : Nat} (hi : i < n) {val : Nat → Int} {h' t' : Nat} {bv' : Int} (hP : PipeIs (R i) W val) (hQ : PQ (R i).N val h' t' (it i)) (hb : CellB W bell bv')
    (hk : Keeps w W (fun b => (R i).own b ∨ b = bell)) : Pipes R n bell it W (fun j => if j = i then h' else h j) (fun j => if j = i then t' else t j) bv' := by
  refine ⟨fun j hj => ?_, B.bells, B.order, fun j hj => Nat.le_trans (B.hiLe j hj) hk.size, hb⟩
  by_cases e : j = i
  · subst e; simp only [if_true]; exact ⟨val, hP, hQ⟩
  · simp only [if_neg e]
    obtain ⟨v, a, b⟩ := B.pipes j hj
    exact ⟨v, a.kept hk fun x hx hs => hs.elim (fun y => B.apart hj hi e hx y) fun y => by subst y; have := hx.1; have := a.bellOut; rw [B.bells j hj] at this; omega, b⟩
/-- One more lies in pipe i. -/
theorem Pipes.send (B : Pipes R n bell it w h t bv) {i : Nat} (hi : i < n) (hr : t i < h i + (R i).N) (hl : t i + 1 < 2 ^ 50) {v : Int} (hv : it i (t i) = v) :
    CallT Try.prog 37 #[.pointer (some ⟨(R i).p, 0, none⟩), .pointer none, .int .i64 v] w fun x W => x = .int .i8 1 ∧ (∃ bv', Pipes R n bell it W h (fun j => if j = i then t i + 1 else t j) bv') ∧ Keeps w W (fun b => (R i).own b ∨ b = bell) := by
  obtain ⟨val, hP, hQ⟩ := B.pipes i hi
  have hb : CellB w (R i).bell bv := by rw [B.bells i hi]; exact B.bellC
  refine (trySend_T hP hb (t := t i) (by omega) hQ.tail (by rw [hQ.turn (t i) hQ.ht hr, if_neg (Nat.lt_irrefl _)]) v).mono fun x W ⟨a, b, c, d⟩ => ⟨a, ?_, ?_⟩
  · rw [B.bells i hi] at c d
    have := B.turn hi b (hQ.send hr hl hv) c d
    have e : (fun j => if j = i then h i else h j) = h := by funext j; by_cases x : j = i <;> simp [x]
    rw [e] at this
    exact ⟨_, this⟩
  · rw [B.bells i hi] at d; exact d
theorem Pipes.bench (B : Pipes R n bell it w h t bv) {tick c lb : Nat} {tv : Int} (h1 : CellB w tick tv) (h2 : w.heap[c]? = some (choiceO bell tick)) (h3 : CaseRow w lb n R) (h4 : ∀ j, j < n → ¬ (R j).own tick ∧ ¬ (R j).own c ∧ ¬ (R j).own lb) (h5 : tick ≠ bell) : Bench R n bell tick c lb it w h t bv tv :=
  ⟨B.pipes, B.bells, B.order, B.hiLe, B.bellC, h1, h2, h3, h4, h5⟩
end
def it21 (j k : Nat) : Int := if j = 0 then 5 else 6
set_option maxHeartbeats 2000000 in
set_option maxRecDepth 20000 in
theorem works21_T (w : World) : CallT Try.prog 40 #[] w fun x W => x = .bool true ∧ Keeps w W (fun _ => False) := by
  refine callT_of Try.func40 rfl fun c' cs => ?_
  simp only [Try.ntmps40, List.size_toArray, List.length_cons, List.length_nil, Nat.reduceAdd, Nat.reduceSub, Array.replicate_succ, Array.replicate_zero, List.push_toArray, List.append_toArray, List.nil_append, List.cons_append]
  (repeat (first | (first | refine gt_seq ?_ | refine gt_block ?_ | refine gt_region_end ?_ | refine gt_skip ?_ | refine gt_inBlock ?_ | refine gt_label ?_ | refine gt_scope ?_ | refine gt_inScope ?_ | refine gt_exit rfl ?_) | (refine gt_region ?_; simp only [List.size_toArray, List.length_cons, List.length_nil, Nat.reduceAdd, Nat.zero_add, List.range, List.range.loop]) | (refine gt_op rfl (by rfl) (by rfl) (by decide) (fun dd K hK => ?_); go_simp; refine hK _ _ ?_; clear hK K; (try walk_nrm); (try simp only [at_at', alloc_at', setCell_at']); refine Gt.at ?_ _) | (refine gt_unwanted rfl (by rfl) ?_; try walk_nrm) | (first | refine gt_cond_t rfl ?_ | refine gt_cond_f rfl ?_)))
  refine gt_callf rfl (by rfl) (by decide) rfl rfl Try.func18 (by rfl) rfl (new_T _ 0) (by simp [Act.eval]) ?_
  rintro _ W' ⟨rfl, e'⟩; subst W'
  walk_nrm
  refine gt_gen (fun W' => Keeps w W' (fun _ => False) ∧ CellB W' w.heap.size 0) ⟨Keeps.alloc _ _ _, heap_alloc_new' _ _⟩ ?_
  rintro W1 ⟨hk1, hb1⟩
  generalize hbell : w.heap.size = bell at *
  have P0 := Lib.hid (show Pipes (fun _ => default) 0 bell it21 W1 (fun _ => 0) (fun _ => 0) 0 from Pipes.zero hb1)
  (repeat (first | (first | refine gt_seq ?_ | refine gt_block ?_ | refine gt_region_end ?_ | refine gt_skip ?_ | refine gt_inBlock ?_ | refine gt_label ?_ | refine gt_scope ?_ | refine gt_inScope ?_ | refine gt_exit rfl ?_) | (refine gt_region ?_; simp only [List.size_toArray, List.length_cons, List.length_nil, Nat.reduceAdd, Nat.zero_add, List.range, List.range.loop]) | (refine gt_op rfl (by rfl) (by rfl) (by decide) (fun dd K hK => ?_); go_simp; refine hK _ _ ?_; clear hK K; (try walk_nrm); (try simp only [at_at', alloc_at', setCell_at']); refine Gt.at ?_ _) | (refine gt_unwanted rfl (by rfl) ?_; try walk_nrm) | (first | refine gt_cond_t rfl ?_ | refine gt_cond_f rfl ?_)))
  refine gt_callf rfl (by rfl) (by decide) rfl rfl Try.func36 (by rfl) rfl (pipe_new_T W1 2 1 bell rfl (by decide) (by decide) (lt_of_heap hb1) (by decide)) (by simp [Act.eval]) ?_
  rintro _ W2 ⟨Ra, rfl, hPa, hNa, hba, hla, hha, hk2⟩
  have P1 := Lib.hid (P0.out.add hk2 hPa hba hla hha)
  have hk12 := hk1.trans hk2
  have hb2 := P1.out.bellC
  clear hk1 hk2 hb1 hPa hba hla hha
  walk_nrm
  (repeat (first | (first | refine gt_seq ?_ | refine gt_block ?_ | refine gt_region_end ?_ | refine gt_skip ?_ | refine gt_inBlock ?_ | refine gt_label ?_ | refine gt_scope ?_ | refine gt_inScope ?_ | refine gt_exit rfl ?_) | (refine gt_region ?_; simp only [List.size_toArray, List.length_cons, List.length_nil, Nat.reduceAdd, Nat.zero_add, List.range, List.range.loop]) | (refine gt_op rfl (by rfl) (by rfl) (by decide) (fun dd K hK => ?_); go_simp; refine hK _ _ ?_; clear hK K; (try walk_nrm); (try simp only [at_at', alloc_at', setCell_at']); refine Gt.at ?_ _) | (refine gt_unwanted rfl (by rfl) ?_; try walk_nrm) | (first | refine gt_cond_t rfl ?_ | refine gt_cond_f rfl ?_)))
  refine gt_callf rfl (by rfl) (by decide) rfl rfl Try.func36 (by rfl) rfl (pipe_new_T W2 2 1 bell rfl (by decide) (by decide) (lt_of_heap hb2) (by decide)) (by simp [Act.eval]) ?_
  rintro _ W3 ⟨Rb, rfl, hPb, hNb, hbb, hlb, hhb, hk3⟩
  obtain ⟨R, rfl, rfl, P2⟩ : ∃ R : Nat → Pipe, R 0 = Ra ∧ R 1 = Rb ∧ Pipes R 2 bell it21 W3 (fun _ => 0) (fun _ => 0) 0 :=
    ⟨fun j => if j = 1 then Rb else if j = 0 then Ra else default, rfl, rfl, (P1.out.add hk3 hPb hbb hlb hhb).congr (fun j hj => by (obtain rfl | rfl : j = 0 ∨ j = 1 := by omega) <;> rfl) (fun j hj => by (obtain rfl | rfl : j = 0 ∨ j = 1 := by omega) <;> rfl) (fun j hj => by (obtain rfl | rfl : j = 0 ∨ j = 1 := by omega) <;> rfl)⟩
  have hk13 := hk12.trans hk3
  clear hk12 hk3 P1 P0 hb2 hPb hbb hlb hhb
  walk_nrm
  (repeat (first | (first | refine gt_seq ?_ | refine gt_block ?_ | refine gt_region_end ?_ | refine gt_skip ?_ | refine gt_inBlock ?_ | refine gt_label ?_ | refine gt_scope ?_ | refine gt_inScope ?_ | refine gt_exit rfl ?_) | (refine gt_region ?_; simp only [List.size_toArray, List.length_cons, List.length_nil, Nat.reduceAdd, Nat.zero_add, List.range, List.range.loop]) | (refine gt_op rfl (by rfl) (by rfl) (by decide) (fun dd K hK => ?_); go_simp; refine hK _ _ ?_; clear hK K; (try walk_nrm); (try simp only [at_at', alloc_at', setCell_at']); refine Gt.at ?_ _) | (refine gt_unwanted rfl (by rfl) ?_; try walk_nrm) | (first | refine gt_cond_t rfl ?_ | refine gt_cond_f rfl ?_)))
  refine gt_callf rfl (by rfl) (by decide) rfl rfl Try.func35 (by rfl) rfl (choice_new_T W3 bell) (by simp [Act.eval]) ?_
  rintro _ W' ⟨rfl, e'⟩; subst W'
  walk_nrm
  refine gt_gen (fun W' => Keeps W3 W' (fun _ => False) ∧ CellB W' W3.heap.size 0 ∧ W'.heap[W3.heap.size + 1]? = some (choiceO bell W3.heap.size)) ⟨(Keeps.alloc _ _ _).trans (Keeps.alloc _ _ _), heap_alloc_old' (heap_alloc_new' _ _), by have := heap_alloc_new' (W3.alloc (cellO 0)) (choiceO bell W3.heap.size); rw [heap_alloc_size'] at this; exact this⟩ ?_
  rintro W4 ⟨hk4, ht4, hc4⟩
  have P4 := Lib.hid (P2.kept0 hk4)
  have hap : ∀ j, j < 2 → ∀ b, (R j).own b → b < W3.heap.size := fun j hj b hb => Nat.lt_of_lt_of_le hb.2 (P2.hiLe j hj)
  have hbt := lt_of_heap P2.bellC
  have hk14 := hk13.trans hk4
  have P2' := Lib.hid P2
  clear P2 hk13 hk4
  generalize htick : W3.heap.size = tick at *
  (repeat (first | (first | refine gt_seq ?_ | refine gt_block ?_ | refine gt_region_end ?_ | refine gt_skip ?_ | refine gt_inBlock ?_ | refine gt_label ?_ | refine gt_scope ?_ | refine gt_inScope ?_ | refine gt_exit rfl ?_) | (refine gt_region ?_; simp only [List.size_toArray, List.length_cons, List.length_nil, Nat.reduceAdd, Nat.zero_add, List.range, List.range.loop]) | (refine gt_op rfl (by rfl) (by rfl) (by decide) (fun dd K hK => ?_); go_simp; refine hK _ _ ?_; clear hK K; (try walk_nrm); (try simp only [at_at', alloc_at', setCell_at']); refine Gt.at ?_ _) | (refine gt_unwanted rfl (by rfl) ?_; try walk_nrm) | (first | refine gt_cond_t rfl ?_ | refine gt_cond_f rfl ?_)))
  refine gt_callf rfl (by rfl) (by decide) rfl rfl Try.func37 (by rfl) rfl (P4.out.send (i := 0) (by decide) (by show 0 < 0 + (R 0).N; omega) (by decide) (v := 5) rfl) (by simp [Act.eval]) ?_
  rintro _ W5 ⟨rfl, ⟨bv5, P5⟩, hk5⟩
  have ht5 : CellB W5 tick 0 := hk5.heap ht4 fun h => h.elim (fun x => by have := hap 0 (by decide) _ x; omega) (by omega)
  have hc5 := hk5.heap hc4 fun h => h.elim (fun x => by have := hap 0 (by decide) _ x; omega) (by omega)
  have hk15 : Keeps w W5 (fun _ => False) := hk14.above hk5 fun b hb => by rw [hbell]; exact hb.elim (fun x => Nat.le_of_lt (P4.out.above (by decide) x)) (fun x => Nat.le_of_eq x.symm)
  have P5' := Lib.hid P5
  clear P5 hk14 hk5 ht4 hc4
  walk_nrm
  (repeat (first | (first | refine gt_seq ?_ | refine gt_block ?_ | refine gt_region_end ?_ | refine gt_skip ?_ | refine gt_inBlock ?_ | refine gt_label ?_ | refine gt_scope ?_ | refine gt_inScope ?_ | refine gt_exit rfl ?_) | (refine gt_region ?_; simp only [List.size_toArray, List.length_cons, List.length_nil, Nat.reduceAdd, Nat.zero_add, List.range, List.range.loop]) | (refine gt_op rfl (by rfl) (by rfl) (by decide) (fun dd K hK => ?_); go_simp; refine hK _ _ ?_; clear hK K; (try walk_nrm); (try simp only [at_at', alloc_at', setCell_at']); refine Gt.at ?_ _) | (refine gt_unwanted rfl (by rfl) ?_; try walk_nrm) | (first | refine gt_cond_t rfl ?_ | refine gt_cond_f rfl ?_)))
  refine gt_callf rfl (by rfl) (by decide) rfl rfl Try.func37 (by rfl) rfl (P5'.out.send (i := 1) (by decide) (by show 0 < 0 + (R 1).N; omega) (by decide) (v := 6) rfl) (by simp [Act.eval]) ?_
  rintro _ W6 ⟨rfl, ⟨bv6, P6⟩, hk6⟩
  have ht6 : CellB W6 tick 0 := hk6.heap ht5 fun h => h.elim (fun x => by have := hap 1 (by decide) _ x; omega) (by omega)
  have hc6 := hk6.heap hc5 fun h => h.elim (fun x => by have := hap 1 (by decide) _ x; omega) (by omega)
  have hk16 : Keeps w W6 (fun _ => False) := hk15.above hk6 fun b hb => by rw [hbell]; exact hb.elim (fun x => Nat.le_of_lt (P4.out.above (by decide) x)) (fun x => Nat.le_of_eq x.symm)
  have P6' := Lib.hid P6
  clear P6 hk15 hk6 ht5 hc5
  walk_nrm
  (repeat (first | (first | refine gt_seq ?_ | refine gt_block ?_ | refine gt_region_end ?_ | refine gt_skip ?_ | refine gt_inBlock ?_ | refine gt_label ?_ | refine gt_scope ?_ | refine gt_inScope ?_ | refine gt_exit rfl ?_) | (refine gt_region ?_; simp only [List.size_toArray, List.length_cons, List.length_nil, Nat.reduceAdd, Nat.zero_add, List.range, List.range.loop]) | (refine gt_op rfl (by rfl) (by rfl) (by decide) (fun dd K hK => ?_); go_simp; refine hK _ _ ?_; clear hK K; (try walk_nrm); (try simp only [at_at', alloc_at', setCell_at']); refine Gt.at ?_ _) | (refine gt_unwanted rfl (by rfl) ?_; try walk_nrm) | (first | refine gt_cond_t rfl ?_ | refine gt_cond_f rfl ?_)))
  refine gt_gen (fun W' => Keeps W6 W' (fun _ => False) ∧ CaseRow W' W6.heap.size 2 R) ⟨Keeps.alloc _ _ _, _, heap_alloc_new' _ _, fun j hj => by (obtain rfl | rfl : j = 0 ∨ j = 1 := by omega) <;> exact ⟨rfl, rfl, rfl⟩⟩ ?_
  rintro W7 ⟨hk7, hrow⟩
  have hk17 := hk16.trans hk7
  have hlb : tick < W6.heap.size := lt_of_heap ht6
  have B7 : Bench R 2 bell tick (tick + 1) W6.heap.size it21 W7 (fun _ => 0) (fun j => if j = 1 then 1 else if j = 0 then 1 else 0) bv6 ((0 : Nat) : Int) :=
    (((P6'.out.kept0 hk7).congr (h' := fun _ => 0) (t' := fun j => if j = 1 then 1 else if j = 0 then 1 else 0) (fun _ _ => rfl) (fun j hj => by (obtain rfl | rfl : j = 0 ∨ j = 1 := by omega) <;> rfl) (fun _ _ => rfl)).bench (hk7.heap ht6 fun h => h) (hk7.heap hc6 fun h => h) hrow (fun j hj => ⟨fun h => by have := hap j hj _ h; omega, fun h => by have := hap j hj _ h; omega, fun h => by have := hap j hj _ h; omega⟩) (by omega))
  have hsel := select_T B7 (cap := 2) (by decide) (by decide) (by decide) (j0 := 0) (by decide) (by decide)
  generalize W6.heap.size = lb at *
  have hB := Lib.hid B7
  clear B7 hk7 hrow ht6 hc6 hk16
  (repeat (first | (first | refine gt_seq ?_ | refine gt_block ?_ | refine gt_region_end ?_ | refine gt_skip ?_ | refine gt_inBlock ?_ | refine gt_label ?_ | refine gt_scope ?_ | refine gt_inScope ?_ | refine gt_exit rfl ?_) | (refine gt_region ?_; simp only [List.size_toArray, List.length_cons, List.length_nil, Nat.reduceAdd, Nat.zero_add, List.range, List.range.loop]) | (refine gt_op rfl (by rfl) (by rfl) (by decide) (fun dd K hK => ?_); go_simp; refine hK _ _ ?_; clear hK K; (try walk_nrm); (try simp only [at_at', alloc_at', setCell_at']); refine Gt.at ?_ _) | (refine gt_unwanted rfl (by rfl) ?_; try walk_nrm) | (first | refine gt_cond_t rfl ?_ | refine gt_cond_f rfl ?_)))
  refine gt_callf rfl (by rfl) (by decide) rfl rfl Try.func38 (by rfl) rfl (hsel) (by simp [Act.eval]) ?_
  clear hsel
  rintro _ W8 ⟨i, d, hi, hlt, hd, hid, hpast, rfl, ⟨bv8, B8⟩, hk8⟩
  have hd0 : d = 0 := by
    rcases Nat.eq_zero_or_pos d with h | h
    · exact h
    · exact absurd (hpast 0 h) (by decide)
  subst hd0
  have hi0 : i = 0 := hid
  subst hi0
  have hsel := select_T B8 (cap := 2) (by decide) (by decide) (by decide) (j0 := 1) (by decide) (by decide)
  have hk18 : Keeps w W8 (fun _ => False) := hk17.above hk8 fun b hb => by
    rw [hbell]
    rcases hb with h | h | ⟨j, hj, h⟩
    · omega
    · omega
    · exact Nat.le_of_lt (P4.out.above hj h)
  have hB8 := Lib.hid B8
  clear B8 hk17 hk8 hpast hid hlt hi hd
  walk_nrm
  (repeat (first | (first | refine gt_seq ?_ | refine gt_block ?_ | refine gt_region_end ?_ | refine gt_skip ?_ | refine gt_inBlock ?_ | refine gt_label ?_ | refine gt_scope ?_ | refine gt_inScope ?_ | refine gt_exit rfl ?_) | (refine gt_region ?_; simp only [List.size_toArray, List.length_cons, List.length_nil, Nat.reduceAdd, Nat.zero_add, List.range, List.range.loop]) | (refine gt_op rfl (by rfl) (by rfl) (by decide) (fun dd K hK => ?_); go_simp; refine hK _ _ ?_; clear hK K; (try walk_nrm); (try simp only [at_at', alloc_at', setCell_at']); refine Gt.at ?_ _) | (refine gt_unwanted rfl (by rfl) ?_; try walk_nrm) | (first | refine gt_cond_t rfl ?_ | refine gt_cond_f rfl ?_)))
  refine gt_callf rfl (by rfl) (by decide) rfl rfl Try.func38 (by rfl) rfl (hsel) (by simp [Act.eval]) ?_
  clear hsel
  rintro _ W9 ⟨i, d, hi, hlt, hd, hid, hpast, rfl, ⟨bv9, B9⟩, hk9⟩
  have hd0 : d = 0 := by
    rcases Nat.eq_zero_or_pos d with h | h
    · exact h
    · exact absurd (hpast 0 h) (by decide)
  subst hd0
  have hi0 : i = 1 := hid
  subst hi0
  have htry := try_T B9 (cap := 2) (by decide) (by decide) (by decide)
  have hk19 : Keeps w W9 (fun _ => False) := hk18.above hk9 fun b hb => by
    rw [hbell]
    rcases hb with h | h | ⟨j, hj, h⟩
    · omega
    · omega
    · exact Nat.le_of_lt (P4.out.above hj h)
  clear hk18 hk9 hpast hid hlt hi hd B9
  walk_nrm
  (repeat (first | (first | refine gt_seq ?_ | refine gt_block ?_ | refine gt_region_end ?_ | refine gt_skip ?_ | refine gt_inBlock ?_ | refine gt_label ?_ | refine gt_scope ?_ | refine gt_inScope ?_ | refine gt_exit rfl ?_) | (refine gt_region ?_; simp only [List.size_toArray, List.length_cons, List.length_nil, Nat.reduceAdd, Nat.zero_add, List.range, List.range.loop]) | (refine gt_op rfl (by rfl) (by rfl) (by decide) (fun dd K hK => ?_); go_simp; refine hK _ _ ?_; clear hK K; (try walk_nrm); (try simp only [at_at', alloc_at', setCell_at']); refine Gt.at ?_ _) | (refine gt_unwanted rfl (by rfl) ?_; try walk_nrm) | (first | refine gt_cond_t rfl ?_ | refine gt_cond_f rfl ?_)))
  refine gt_callf rfl (by rfl) (by decide) rfl rfl Try.func39 (by rfl) rfl (htry) (by simp [Act.eval]) ?_
  clear htry
  rintro _ W10 ⟨hx, hk10⟩
  have hk1A : Keeps w W10 (fun _ => False) := hk19.above hk10 fun b hb => by
    rw [hbell]
    rcases hb with h | h | ⟨j, hj, h⟩
    · omega
    · omega
    · exact Nat.le_of_lt (P4.out.above hj h)
  clear hk19 hk10
  rcases hx with ⟨i, v, hi, hlt, _⟩ | ⟨_, rfl⟩
  · exfalso
    (obtain rfl | rfl : i = 0 ∨ i = 1 := by omega) <;> simp at hlt
  · walk_nrm
    have e1 : it21 0 0 = 5 := rfl
    have e2 : it21 1 0 = 6 := rfl
    (repeat (first | (first | refine gt_seq ?_ | refine gt_block ?_ | refine gt_region_end ?_ | refine gt_skip ?_ | refine gt_inBlock ?_ | refine gt_label ?_ | refine gt_scope ?_ | refine gt_inScope ?_ | refine gt_exit rfl ?_) | (refine gt_region ?_; simp only [List.size_toArray, List.length_cons, List.length_nil, Nat.reduceAdd, Nat.zero_add, List.range, List.range.loop]) | (refine gt_op rfl (by rfl) (by rfl) (by decide) (fun dd K hK => ?_); go_simp; refine hK _ _ ?_; clear hK K; (try walk_nrm); (try simp only [at_at', alloc_at', setCell_at']); refine Gt.at ?_ _) | (refine gt_unwanted rfl (by rfl) ?_; try walk_nrm) | (first | refine gt_cond_t rfl ?_ | refine gt_cond_f rfl ?_)))
    exact gt_return rfl Try.func40 (resultsC_tmp rfl _)  ⟨rfl, hk1A⟩
end Go.Proofs.Ytekmbijlaonnmaa.Z
