/-
  The choice among pipes, for whoever has no live thread: contracts.
-/
import Derived.Test.YtekmbijlaonnmaaPipeFree
import Derived.Laws.ResultCell
set_option linter.unusedSimpArgs false
set_option linter.unusedVariables false
namespace Go.Proofs.Ytekmbijlaonnmaa.Z
open Go.Conc
theorem stepG_leaveE {P : Program} {main : Bool} {b : Frame} {a : Act} {cs : List Frame} {w : World} {fn : Func} {todo : List Item} {c : Frame} {v : Value} (hn : b.kind = .normal) (hd : a.defers = []) (hf : P.funcs[b.fn]? = some fn)
    (hr : (results fn a.tmps).run P w = .ok v w) : ∃ es, stepG P main (G { b.at a todo with mode := .returning } (c :: cs)) w = .go (G (c.finish v) cs) w es := by
  refine ⟨seen P b.fn ((results fn a.tmps).events P w #[]), ?_⟩
  simp [G, stepG, unwind, doReturn, Frame.at, hn, hd, hf, hr, GStep.after]
/-- A return whose results lie in memory. -/
theorem gt_returnE {P : Program} {a : Act} {k : List Item} {cs : List Frame} {w : World} {f : FuncId} {c : Frame} {fn : Func} {Post : Value → World → Prop} {v : Value} (hd : a.defers = []) (hf : P.funcs[f]? = some fn) (hr : ∀ d, (results fn a.tmps).run P (w.at d) = .ok v (w.at d)) (hp : Post v w) :
    Gt P (RetT c cs Post) (G ((base f).at a (.code .ret :: k)) (c :: cs)) w :=
  gt_ret fun n => gz_step rfl fun d => by
    obtain ⟨es, he⟩ := stepG_leaveE (P := P) (main := true) (b := base f) (cs := cs) (c := c) (todo := .code .ret :: k) rfl hd hf (hr d)
    exact ⟨_, _, es, he, trivial, (retT_stop hp _).at d⟩
theorem gt_gen {P : Program} {Z : Goroutine → World → Prop} {g : Goroutine} {W : World} (Q : World → Prop) (hQ : Q W) (h : ∀ W', Q W' → Gt P Z g W') : Gt P Z g W := h W hQ
theorem gt_forget {P : Program} {Z : Goroutine → World → Prop} {g : Goroutine} {w W : World} {S : Nat → Prop} (hk : Keeps w W S) (h : ∀ W', Keeps w W' S → Gt P Z g W') : Gt P Z g W := h W hk
theorem gt_forget1 {P : Program} {Z : Goroutine → World → Prop} {g : Goroutine} {w W : World} {S : Nat → Prop} {ad : Addr} {v : Value} (hk : Keeps w W S) (hx : W.cell? ad = some v) (h : ∀ W', Keeps w W' S → W'.cell? ad = some v → Gt P Z g W') : Gt P Z g W := h W hk hx
theorem Keeps.setNew {w W : World} {S : Nat → Prop} (h : Keeps w W S) {b o : Nat} (v : Value) (hb : w.heap.size ≤ b) : Keeps w (W.setCell ⟨b, o, none⟩ v) S :=
  ⟨by rw [heap_set_size]; exact h.size, h.os, fun c hc hs => by rw [heap_set_ne (by omega)]; exact h.old c hc hs⟩
theorem Keeps.allocNew {w W : World} {S : Nat → Prop} (h : Keeps w W S) (o : Obj) : Keeps w (W.alloc o) S := h.trans (Keeps.alloc W o S)
def choiceO (bell tick : Nat) : Obj := .cells #[.pointer (some ⟨bell, 0, none⟩), .pointer (some ⟨tick, 0, none⟩)] 251 (0, 0)
theorem choice_new_T (w : World) (bell : Nat) : CallT Try.prog 35 #[.pointer (some ⟨bell, 0, none⟩)] w fun x W => x = .pointer (some ⟨w.heap.size + 1, 0, none⟩) ∧ W = (w.alloc (cellO 0)).alloc (choiceO bell w.heap.size) := by
  refine callT_of Try.func35 rfl fun c' cs => ?_
  simp only [Try.ntmps35, List.size_toArray, List.length_cons, List.length_nil, Nat.reduceAdd, Nat.reduceSub, Array.replicate_succ, Array.replicate_zero, List.push_toArray, List.append_toArray, List.nil_append, List.cons_append]
  (repeat (first | (first | refine gt_seq ?_ | refine gt_block ?_ | refine gt_region_end ?_ | refine gt_skip ?_ | refine gt_inBlock ?_ | refine gt_label ?_ | refine gt_scope ?_ | refine gt_inScope ?_ | refine gt_exit rfl ?_) | (refine gt_region ?_; simp only [List.size_toArray, List.length_cons, List.length_nil, Nat.reduceAdd, Nat.zero_add, List.range, List.range.loop]) | (refine gt_op rfl (by rfl) (by rfl) (by decide) (fun dd K hK => ?_); go_simp; refine hK _ _ ?_; clear hK K; (try walk_nrm); (try simp only [at_at', alloc_at', setCell_at']); refine Gt.at ?_ _) | (refine gt_unwanted rfl (by rfl) ?_; try walk_nrm) | (first | refine gt_cond_t rfl ?_ | refine gt_cond_f rfl ?_)))
  refine gt_callf rfl (by rfl) (by decide) rfl rfl Try.func18 (by rfl) rfl (new_T w 0) (by simp [Act.eval]) ?_
  rintro _ W' ⟨rfl, e'⟩; subst W'
  walk_nrm
  (repeat (first | (first | refine gt_seq ?_ | refine gt_block ?_ | refine gt_region_end ?_ | refine gt_skip ?_ | refine gt_inBlock ?_ | refine gt_label ?_ | refine gt_scope ?_ | refine gt_inScope ?_ | refine gt_exit rfl ?_) | (refine gt_region ?_; simp only [List.size_toArray, List.length_cons, List.length_nil, Nat.reduceAdd, Nat.zero_add, List.range, List.range.loop]) | (refine gt_op rfl (by rfl) (by rfl) (by decide) (fun dd K hK => ?_); go_simp; refine hK _ _ ?_; clear hK K; (try walk_nrm); (try simp only [at_at', alloc_at', setCell_at']); refine Gt.at ?_ _) | (refine gt_unwanted rfl (by rfl) ?_; try walk_nrm) | (first | refine gt_cond_t rfl ?_ | refine gt_cond_f rfl ?_)))
  exact gt_return rfl Try.func35 (resultsC_tmp rfl _)  ⟨rfl, rfl⟩
/-- A row of cases: each receives from its pipe. -/
def CaseRow (w : World) (lb n : Nat) (R : Nat → Pipe) : Prop :=
  ∃ cur, w.heap[lb]? = some (.cells cur 78 (0, 0)) ∧ ∀ j, j < n → cur[j * 3]? = some (.pointer (some ⟨(R j).p, 0, none⟩)) ∧ cur[j * 3 + 1]? = some (.bool false) ∧ cur[j * 3 + 2]? = some (.int .i64 0)
set_option maxHeartbeats 1000000 in
set_option maxRecDepth 20000 in
theorem refused_T {w : World} {c bell tick lb n cap : Nat} {R : Nat → Pipe} {val : Nat → Nat → Int} (hc : w.heap[c]? = some (choiceO bell tick)) (hl : CaseRow w lb n R) (hn : 1 ≤ n) (hn9 : n ≤ 100) (hR : ∀ j, j < n → PipeIs (R j) w (val j) ∧ (R j).bell = bell) :
    CallT Try.prog 132 #[.pointer (some ⟨c, 0, none⟩), .slice (some ⟨lb, 0, none⟩) n cap] w fun x W => x = .int .i64 0 ∧ Keeps w W (fun _ => False) := by
  have hc0 : w.cell? ⟨c, 0, none⟩ = some (.pointer (some ⟨bell, 0, none⟩)) := cell?_of hc rfl
  refine callT_of Try.func132 rfl fun c' cs => ?_
  simp only [Try.ntmps132, List.size_toArray, List.length_cons, List.length_nil, Nat.reduceAdd, Nat.reduceSub, Array.replicate_succ, Array.replicate_zero, List.push_toArray, List.append_toArray, List.nil_append, List.cons_append]
  (repeat (first | (first | refine gt_seq ?_ | refine gt_block ?_ | refine gt_region_end ?_ | refine gt_skip ?_ | refine gt_inBlock ?_ | refine gt_label ?_ | refine gt_scope ?_ | refine gt_inScope ?_ | refine gt_exit rfl ?_) | (refine gt_region ?_; simp only [List.size_toArray, List.length_cons, List.length_nil, Nat.reduceAdd, Nat.zero_add, List.range, List.range.loop]) | (refine gt_op rfl (by rfl) (by rfl) (by decide) (fun dd K hK => ?_); go_simp; refine hK _ _ ?_; clear hK K; (try walk_nrm); (try simp only [at_at', alloc_at', setCell_at']); refine Gt.at ?_ _) | (refine gt_unwanted rfl (by rfl) ?_; try walk_nrm) | (first | refine gt_cond_t rfl ?_ | refine gt_cond_f rfl ?_)))
  refine gt_while (r := n) (fun r a W => ∃ (j : Nat) (x2 x3 x5 x6 x7 x8 x9 x10 x11 x12 x13 x14 x15 x16 x17 x21 x22 x23 x24 x25 x26 x27 x28 x29 x30 x31 x32 x33 x34 x35 x36 x37 x38 x39 x40 x41 x42 x43 x44 x45 x46 : Value), a = ⟨(List.toArray (.pointer (some ⟨c, 0, none⟩) :: .slice (some ⟨lb, 0, none⟩) n cap :: x2 :: x3 :: .int .i64 0 :: x5 :: x6 :: x7 :: x8 :: x9 :: x10 :: x11 :: x12 :: x13 :: x14 :: x15 :: x16 :: x17 :: .slice (some ⟨lb, 0, none⟩) n cap :: .int .i64 (n : Int) :: .int .i64 (j : Int) :: x21 :: x22 :: x23 :: x24 :: x25 :: x26 :: x27 :: x28 :: x29 :: x30 :: x31 :: x32 :: x33 :: x34 :: x35 :: x36 :: x37 :: x38 :: x39 :: x40 :: x41 :: x42 :: x43 :: x44 :: x45 :: x46 :: [])), []⟩ ∧ j + r = n ∧ Keeps w W (fun _ => False)) ⟨0, _, _, _, _, _, _, _, _, _, _, _, _, _, _, _, _, _, _, _, _, _, _, _, _, _, _, _, _, _, _, _, _, _, _, _, _, _, _, _, _, _, rfl, by omega, Keeps.refl _ _⟩ ?_
  rintro r a W ⟨j, x2, x3, x5, x6, x7, x8, x9, x10, x11, x12, x13, x14, x15, x16, x17, x21, x22, x23, x24, x25, x26, x27, x28, x29, x30, x31, x32, x33, x34, x35, x36, x37, x38, x39, x40, x41, x42, x43, x44, x45, x46, rfl, hr, hk⟩ ih
  by_cases hlt : (j : Int) < (n : Int)
  · obtain ⟨cur, hcur, hcs⟩ := hl
    obtain ⟨hA, hB, hC⟩ := hcs j (by omega)
    have hcur' := hk.heap hcur (fun h => h)
    have k0 : W.cell? ⟨lb, j * 3, none⟩ = _ := cell?_of hcur' hA
    have k1 : W.cell? ⟨lb, j * 3 + 1, none⟩ = _ := cell?_of hcur' hB
    have k2 : W.cell? ⟨lb, j * 3 + 2, none⟩ = _ := cell?_of hcur' hC


    (repeat (first | (first | refine gt_seq ?_ | refine gt_block ?_ | refine gt_region_end ?_ | refine gt_skip ?_ | refine gt_inBlock ?_ | refine gt_label ?_ | refine gt_scope ?_ | refine gt_inScope ?_ | refine gt_exit rfl ?_) | (refine gt_region ?_; simp only [List.size_toArray, List.length_cons, List.length_nil, Nat.reduceAdd, Nat.zero_add, List.range, List.range.loop]) | (refine gt_op rfl (by rfl) (by rfl) (by decide) (fun dd K hK => ?_); go_simp; refine hK _ _ ?_; clear hK K; (try walk_nrm); (try simp only [at_at', alloc_at', setCell_at']); refine Gt.at ?_ _) | (refine gt_unwanted rfl (by rfl) ?_; try walk_nrm) | (first | refine gt_cond_t rfl ?_ | refine gt_cond_f rfl ?_)))
    obtain ⟨hP, hbell⟩ := hR j (by omega)
    refine gt_forget (w := w) (S := fun _ => False) (by repeat (first | exact hk | refine Keeps.allocNew ?_ _ | refine Keeps.setNew ?_ _ (by have := hk.size; omega))) ?_
    have hw1 : IntKind.i64.wrap ((j : Int) + 1) = j + 1 := wraps_i64 _ (by omega) (by omega)
    clear hcur' k0 k1 k2 hk
    intro W' hk
    have hbl := bell_T (hP.kept hk (fun _ _ h => h))
    rw [hbell] at hbl
    refine gt_callf rfl (by rfl) (by decide) rfl rfl Try.func164 (by rfl) rfl (hbl) (by simp [Act.eval]) ?_
    (rintro _ W' ⟨rfl, e'⟩; subst W'; walk_nrm; (repeat (first | (first | refine gt_seq ?_ | refine gt_block ?_ | refine gt_region_end ?_ | refine gt_skip ?_ | refine gt_inBlock ?_ | refine gt_label ?_ | refine gt_scope ?_ | refine gt_inScope ?_ | refine gt_exit rfl ?_) | (refine gt_region ?_; simp only [List.size_toArray, List.length_cons, List.length_nil, Nat.reduceAdd, Nat.zero_add, List.range, List.range.loop]) | (refine gt_op rfl (by rfl) (by rfl) (by decide) (fun dd K hK => ?_); go_simp; refine hK _ _ ?_; clear hK K; (try walk_nrm); (try simp only [at_at', alloc_at', setCell_at']); refine Gt.at ?_ _) | (refine gt_unwanted rfl (by rfl) ?_; try walk_nrm) | (first | refine gt_cond_t rfl ?_ | refine gt_cond_f rfl ?_))))
    exact ih (r - 1) _ _ (by omega) ⟨j + 1, _, _, _, _, _, _, _, _, _, _, _, _, _, _, _, _, _, _, _, _, _, _, _, _, _, _, _, _, _, _, _, _, _, _, _, _, _, _, _, _, _, rfl, by omega, hk⟩
  · have hn0 : ((n : Int) == 0) = false := by simp; omega
    (repeat (first | (first | refine gt_seq ?_ | refine gt_block ?_ | refine gt_region_end ?_ | refine gt_skip ?_ | refine gt_inBlock ?_ | refine gt_label ?_ | refine gt_scope ?_ | refine gt_inScope ?_ | refine gt_exit rfl ?_) | (refine gt_region ?_; simp only [List.size_toArray, List.length_cons, List.length_nil, Nat.reduceAdd, Nat.zero_add, List.range, List.range.loop]) | (refine gt_op rfl (by rfl) (by rfl) (by decide) (fun dd K hK => ?_); go_simp; refine hK _ _ ?_; clear hK K; (try walk_nrm); (try simp only [at_at', alloc_at', setCell_at']); refine Gt.at ?_ _) | (refine gt_unwanted rfl (by rfl) ?_; try walk_nrm) | (first | refine gt_cond_t rfl ?_ | refine gt_cond_f rfl ?_)))
    refine gt_while (r := n) (fun r a W => ∃ (j : Nat) (x2 x3 x5 x6 x7 x8 x9 x10 x11 x12 x13 x14 x15 x16 x17 x18 x19 x20 x21 x22 x23 x24 x25 x26 x27 x28 x29 x30 x31 x35 x36 x37 x38 x39 x40 x41 x42 x43 x44 x45 x46 : Value), a = ⟨(List.toArray (.pointer (some ⟨c, 0, none⟩) :: .slice (some ⟨lb, 0, none⟩) n cap :: x2 :: x3 :: .int .i64 0 :: x5 :: x6 :: x7 :: x8 :: x9 :: x10 :: x11 :: x12 :: x13 :: x14 :: x15 :: x16 :: x17 :: x18 :: x19 :: x20 :: x21 :: x22 :: x23 :: x24 :: x25 :: x26 :: x27 :: x28 :: x29 :: x30 :: x31 :: .slice (some ⟨lb, 0, none⟩) n cap :: .int .i64 (n : Int) :: .int .i64 (j : Int) :: x35 :: x36 :: x37 :: x38 :: x39 :: x40 :: x41 :: x42 :: x43 :: x44 :: x45 :: x46 :: [])), []⟩ ∧ j + r = n ∧ Keeps w W (fun _ => False)) ⟨0, _, _, _, _, _, _, _, _, _, _, _, _, _, _, _, _, _, _, _, _, _, _, _, _, _, _, _, _, _, _, _, _, _, _, _, _, _, _, _, _, _, rfl, by omega, hk⟩ ?_
    clear ih hr hk hlt
    rintro r a W ⟨j, x2, x3, x5, x6, x7, x8, x9, x10, x11, x12, x13, x14, x15, x16, x17, x18, x19, x20, x21, x22, x23, x24, x25, x26, x27, x28, x29, x30, x31, x35, x36, x37, x38, x39, x40, x41, x42, x43, x44, x45, x46, rfl, hr, hk⟩ ih
    by_cases hlt : (j : Int) < (n : Int)
    · obtain ⟨cur, hcur, hcs⟩ := hl
      obtain ⟨hA, hB, hC⟩ := hcs j (by omega)
      have hcur' := hk.heap hcur (fun h => h)
      have k0 : W.cell? ⟨lb, j * 3, none⟩ = _ := cell?_of hcur' hA
      have k1 : W.cell? ⟨lb, j * 3 + 1, none⟩ = _ := cell?_of hcur' hB
      have k2 : W.cell? ⟨lb, j * 3 + 2, none⟩ = _ := cell?_of hcur' hC
      have hw1 : IntKind.i64.wrap ((j : Int) + 1) = j + 1 := wraps_i64 _ (by omega) (by omega)
      clear hc0
      (repeat (first | (first | refine gt_seq ?_ | refine gt_block ?_ | refine gt_region_end ?_ | refine gt_skip ?_ | refine gt_inBlock ?_ | refine gt_label ?_ | refine gt_scope ?_ | refine gt_inScope ?_ | refine gt_exit rfl ?_) | (refine gt_region ?_; simp only [List.size_toArray, List.length_cons, List.length_nil, Nat.reduceAdd, Nat.zero_add, List.range, List.range.loop]) | (refine gt_op rfl (by rfl) (by rfl) (by decide) (fun dd K hK => ?_); go_simp; refine hK _ _ ?_; clear hK K; (try walk_nrm); (try simp only [at_at', alloc_at', setCell_at']); refine Gt.at ?_ _) | (refine gt_unwanted rfl (by rfl) ?_; try walk_nrm) | (first | refine gt_cond_t rfl ?_ | refine gt_cond_f rfl ?_)))
      obtain ⟨hP, hbell⟩ := hR j (by omega)
      refine gt_forget1 (w := w) (S := fun _ => False) (ad := ⟨W.heap.size, 0, none⟩) (v := .pointer (some ⟨(R j).p, 0, none⟩)) (by repeat (first | exact hk | refine Keeps.allocNew ?_ _ | refine Keeps.setNew ?_ _ (by have := hk.size; omega))) (by simp [go_sem, *]) ?_
      clear hcur' k0 k1 k2 hk
      generalize W.heap.size = xb
      intro W' hk hxb
      have hbl := bell_T (hP.kept hk (fun _ _ h => h))
      rw [hbell] at hbl
      have hc0 : W'.cell? ⟨c, 0, none⟩ = some (.pointer (some ⟨bell, 0, none⟩)) := cell?_of (hk.heap hc (fun h => h)) rfl
      have hI := di_T
      (refine gt_region_held (fun x => x.cell? ⟨xb, 0, none⟩ = some (.pointer (some ⟨(R j).p, 0, none⟩)) ∧ x.cell? ⟨c, 0, none⟩ = some (.pointer (some ⟨bell, 0, none⟩))) [0, 1, 3, 4, 5, 6] (by decide) (by first | kernel_rfl | rfl) (fun nn => ?_); simp only [List.size_toArray, List.length_cons, List.length_nil, Nat.reduceAdd, Nat.zero_add])
      have hSat : ∀ (x : World) (d : Nat), (x.cell? ⟨xb, 0, none⟩ = some (.pointer (some ⟨(R j).p, 0, none⟩)) ∧ x.cell? ⟨c, 0, none⟩ = some (.pointer (some ⟨bell, 0, none⟩))) → ((x.at d).cell? ⟨xb, 0, none⟩ = some (.pointer (some ⟨(R j).p, 0, none⟩)) ∧ (x.at d).cell? ⟨c, 0, none⟩ = some (.pointer (some ⟨bell, 0, none⟩))) := fun _ _ h => h
      have hS := And.intro hxb hc0
      (refine anyZ_take hSat (by intro _ _ _ _ x; exact x.at _) (i := 0) rfl (by first | kernel_rfl | decide +kernel) (by rfl) (by first | kernel_rfl | decide +kernel) (by first | kernel_rfl | decide +kernel) (yieldsZ_rd hI (by rfl) (fun w hw K hK => by (try simp only [Sp] at hw); (try obtain ⟨hw1, hw2⟩ := hw); (try obtain ⟨hw3, hw4⟩ := hw2); (try obtain ⟨hw5, hw6⟩ := hw4); go_simp; exact hK) (fun w hw e he => by (try simp only [Sp] at hw); (try obtain ⟨hw1, hw2⟩ := hw); (try obtain ⟨hw3, hw4⟩ := hw2); (try obtain ⟨hw5, hw6⟩ := hw4); simp [go_sem, *] at he <;> (subst he; exact ⟨_, _, _, rfl, by assumption⟩))) (by assumption) ?_; (try walk_nrm))
      (refine anyZ_take hSat (by intro _ _ _ _ x; exact x.at _) (i := 1) rfl (by first | kernel_rfl | decide +kernel) (by rfl) (by first | kernel_rfl | decide +kernel) (by first | kernel_rfl | decide +kernel) (yieldsZ_rd hI (by rfl) (fun w hw K hK => by (try simp only [Sp] at hw); (try obtain ⟨hw1, hw2⟩ := hw); (try obtain ⟨hw3, hw4⟩ := hw2); (try obtain ⟨hw5, hw6⟩ := hw4); go_simp; exact hK) (fun w hw e he => by (try simp only [Sp] at hw); (try obtain ⟨hw1, hw2⟩ := hw); (try obtain ⟨hw3, hw4⟩ := hw2); (try obtain ⟨hw5, hw6⟩ := hw4); simp [go_sem, *] at he <;> (subst he; exact ⟨_, _, _, rfl, by assumption⟩))) (by assumption) ?_; (try walk_nrm))
      (refine anyZ_take hSat (by intro _ _ _ _ x; exact x.at _) (i := 3) rfl (by first | kernel_rfl | decide +kernel) (by rfl) (by first | kernel_rfl | decide +kernel) (by first | kernel_rfl | decide +kernel) (yieldsZ_rd hI (by rfl) (fun w hw K hK => by (try simp only [Sp] at hw); (try obtain ⟨hw1, hw2⟩ := hw); (try obtain ⟨hw3, hw4⟩ := hw2); (try obtain ⟨hw5, hw6⟩ := hw4); go_simp; exact hK) (fun w hw e he => by (try simp only [Sp] at hw); (try obtain ⟨hw1, hw2⟩ := hw); (try obtain ⟨hw3, hw4⟩ := hw2); (try obtain ⟨hw5, hw6⟩ := hw4); simp [go_sem, *] at he <;> (subst he; exact ⟨_, _, _, rfl, by assumption⟩))) (by assumption) ?_; (try walk_nrm))
      (refine anyZ_take hSat (by intro _ _ _ _ x; exact x.at _) (i := 4) rfl (by first | kernel_rfl | decide +kernel) (by rfl) (by first | kernel_rfl | decide +kernel) (by first | kernel_rfl | decide +kernel) (yieldsZ_rd hI (by rfl) (fun w hw K hK => by (try simp only [Sp] at hw); (try obtain ⟨hw1, hw2⟩ := hw); (try obtain ⟨hw3, hw4⟩ := hw2); (try obtain ⟨hw5, hw6⟩ := hw4); go_simp; exact hK) (fun w hw e he => by (try simp only [Sp] at hw); (try obtain ⟨hw1, hw2⟩ := hw); (try obtain ⟨hw3, hw4⟩ := hw2); (try obtain ⟨hw5, hw6⟩ := hw4); simp [go_sem, *] at he <;> (subst he; exact ⟨_, _, _, rfl, by assumption⟩))) (by assumption) ?_; (try walk_nrm))
      (refine anyZ_take hSat (by intro _ _ _ _ x; exact x.at _) (i := 5) rfl (by first | kernel_rfl | decide +kernel) (by rfl) (by first | kernel_rfl | decide +kernel) (by first | kernel_rfl | decide +kernel) (yieldsZ_rd hI (by rfl) (fun w hw K hK => by (try simp only [Sp] at hw); (try obtain ⟨hw1, hw2⟩ := hw); (try obtain ⟨hw3, hw4⟩ := hw2); (try obtain ⟨hw5, hw6⟩ := hw4); go_simp; exact hK) (fun w hw e he => by (try simp only [Sp] at hw); (try obtain ⟨hw1, hw2⟩ := hw); (try obtain ⟨hw3, hw4⟩ := hw2); (try obtain ⟨hw5, hw6⟩ := hw4); simp [go_sem, *] at he <;> (subst he; exact ⟨_, _, _, rfl, by assumption⟩))) (by assumption) ?_; (try walk_nrm))
      (refine anyZ_take hSat (by intro _ _ _ _ x; exact x.at _) (i := 6) rfl (by first | kernel_rfl | decide +kernel) (by rfl) (by first | kernel_rfl | decide +kernel) (by first | kernel_rfl | decide +kernel) (yieldsZ_rd hI (by rfl) (fun w hw K hK => by (try simp only [Sp] at hw); (try obtain ⟨hw1, hw2⟩ := hw); (try obtain ⟨hw3, hw4⟩ := hw2); (try obtain ⟨hw5, hw6⟩ := hw4); go_simp; exact hK) (fun w hw e he => by (try simp only [Sp] at hw); (try obtain ⟨hw1, hw2⟩ := hw); (try obtain ⟨hw3, hw4⟩ := hw2); (try obtain ⟨hw5, hw6⟩ := hw4); simp [go_sem, *] at he <;> (subst he; exact ⟨_, _, _, rfl, by assumption⟩))) (by assumption) ?_; (try walk_nrm))
      (refine anyZ_only (i := 2) (by first | kernel_rfl | decide +kernel) ?_; refine opZ_call rfl (by rfl) rfl rfl Try.func164 (by rfl) rfl (CallT.toZ (hbl) _) (by simp [Act.eval]) ?_)
      (rintro _ W' _ ⟨rfl, e'⟩ dd; subst W'; walk_nrm; refine ⟨fun _ => (by assumption), AnyZ.at hSat (by intro _ _ _ _ x; exact x.at _) _ _ _ _ _ _ ?_⟩)
      ((refine anyZ_only (i := 7) (by first | kernel_rfl | decide +kernel) ?_; refine opL_op rfl (by rfl) (fun dd e he => by simp [go_sem, *] at he <;> first | (subst he; exact ⟨nofun, nofun⟩) | (rcases he with he | he <;> subst he <;> exact ⟨nofun, nofun⟩) | (rcases he with he | he | he <;> subst he <;> exact ⟨nofun, nofun⟩) | (rcases he with he | he | he | he <;> subst he <;> exact ⟨nofun, nofun⟩)) (fun dd K hK => ?_); go_simp; refine hK _ _ ?_; clear hK K; (try walk_nrm); (try simp only [at_at', alloc_at', setCell_at'])); refine ⟨fun _ => (by assumption), AnyZ.at hSat (by intro _ _ _ _ x; exact x.at _) _ _ _ _ _ _ ?_⟩)
      refine anyZ_done (by first | kernel_rfl | decide +kernel) ?_ _
      (repeat (first | (first | refine gt_seq ?_ | refine gt_block ?_ | refine gt_region_end ?_ | refine gt_skip ?_ | refine gt_inBlock ?_ | refine gt_label ?_ | refine gt_scope ?_ | refine gt_inScope ?_ | refine gt_exit rfl ?_) | (refine gt_region ?_; simp only [List.size_toArray, List.length_cons, List.length_nil, Nat.reduceAdd, Nat.zero_add, List.range, List.range.loop]) | (refine gt_op rfl (by rfl) (by rfl) (by decide) (fun dd K hK => ?_); go_simp; refine hK _ _ ?_; clear hK K; (try walk_nrm); (try simp only [at_at', alloc_at', setCell_at']); refine Gt.at ?_ _) | (refine gt_unwanted rfl (by rfl) ?_; try walk_nrm) | (first | refine gt_cond_t rfl ?_ | refine gt_cond_f rfl ?_)))
      exact ih (r - 1) _ _ (by omega) ⟨j + 1, _, _, _, _, _, _, _, _, _, _, _, _, _, _, _, _, _, _, _, _, _, _, _, _, _, _, _, _, _, _, _, _, _, _, _, _, _, _, _, _, _, rfl, by omega, hk⟩
    · (repeat (first | (first | refine gt_seq ?_ | refine gt_block ?_ | refine gt_region_end ?_ | refine gt_skip ?_ | refine gt_inBlock ?_ | refine gt_label ?_ | refine gt_scope ?_ | refine gt_inScope ?_ | refine gt_exit rfl ?_) | (refine gt_region ?_; simp only [List.size_toArray, List.length_cons, List.length_nil, Nat.reduceAdd, Nat.zero_add, List.range, List.range.loop]) | (refine gt_op rfl (by rfl) (by rfl) (by decide) (fun dd K hK => ?_); go_simp; refine hK _ _ ?_; clear hK K; (try walk_nrm); (try simp only [at_at', alloc_at', setCell_at']); refine Gt.at ?_ _) | (refine gt_unwanted rfl (by rfl) ?_; try walk_nrm) | (first | refine gt_cond_t rfl ?_ | refine gt_cond_f rfl ?_)))
      exact gt_return rfl Try.func132 (resultsC_tmp rfl _)  ⟨rfl, hk⟩
/-! ### what a pipe holds -/
/-- Positions h to t - 1 hold what 'it' says of them. -/
structure PQ (N : Nat) (val : Nat → Int) (h t : Nat) (it : Nat → Int) : Prop where
  tail : val 0 = 2 * t
  head : val 1 = h
  ht : h ≤ t
  room : t ≤ h + N
  low : t < 2 ^ 50
  turn : ∀ k, h ≤ k → k < h + N → val (2 + 2 * (k % N)) = if k < t then (k : Int) + 1 else k
  item : ∀ k, h ≤ k → k < t → val (3 + 2 * (k % N)) = it k
theorem PQ.new (N : Nat) (it : Nat → Int) : PQ N val0 0 0 it := by
  refine ⟨rfl, rfl, Nat.le_refl _, Nat.zero_le _, by omega, fun k _ h => ?_, fun k _ h => by omega⟩
  rw [if_neg (by omega), Nat.mod_eq_of_lt (by omega)]
  unfold val0
  rw [if_neg (by omega), if_pos (by omega)]
  congr 1; omega
theorem mod_ne {N h k k' : Nat} (h1 : h ≤ k) (h2 : k < h + N) (h3 : h ≤ k') (h4 : k' < h + N) (hne : k ≠ k') : k % N ≠ k' % N := fun e => by
  have hN : 0 < N := by omega
  rcases Nat.lt_or_gt_of_ne hne with hl | hl
  · have := Nat.sub_mod_eq_zero_of_mod_eq e.symm
    have h5 : k' - k < N := by omega
    rw [Nat.mod_eq_of_lt h5] at this
    omega
  · have := Nat.sub_mod_eq_zero_of_mod_eq e
    have h5 : k - k' < N := by omega
    rw [Nat.mod_eq_of_lt h5] at this
    omega
theorem PQ.send {N : Nat} {val : Nat → Int} {h t : Nat} {it : Nat → Int} (q : PQ N val h t it) (hr : t < h + N) (hl : t + 1 < 2 ^ 50) {v : Int} (hv : it t = v) : PQ N (vset (vset (vset val 0 (2 * t + 2)) (3 + 2 * (t % N)) v) (2 + 2 * (t % N)) (t + 1)) h (t + 1) it := by
  refine ⟨?_, ?_, by have := q.ht; omega, by omega, hl, fun k h1 h2 => ?_, fun k h1 h2 => ?_⟩
  · simp only [vset]; rw [if_neg (by omega), if_neg (by omega), if_pos trivial]; push_cast; omega
  · simp only [vset]; rw [if_neg (by omega), if_neg (by omega), if_neg (by omega)]; exact q.head
  · simp only [vset]
    by_cases e : k = t
    · subst e; rw [if_pos rfl, if_pos (by omega)]
    · have := mod_ne h1 h2 q.ht hr e
      rw [if_neg (by omega), if_neg (by omega), if_neg (by omega), q.turn k h1 h2]
      by_cases e2 : k < t
      · rw [if_pos e2, if_pos (by omega)]
      · rw [if_neg e2, if_neg (by omega)]
  · simp only [vset]
    by_cases e : k = t
    · subst e; rw [if_neg (by omega), if_pos rfl, hv]
    · have := mod_ne h1 (by omega) q.ht hr e
      rw [if_neg (by omega), if_neg (by omega), if_neg (by omega), q.item k h1 (by omega)]
theorem PQ.recv {N : Nat} {val : Nat → Int} {h t : Nat} {it : Nat → Int} (q : PQ N val h t it) (hr : h < t) (hN : 0 < N) : PQ N (vset (vset val 1 (h + 1)) (2 + 2 * (h % N)) (h + N)) (h + 1) t it := by
  have hroom := q.room
  refine ⟨?_, ?_, by omega, by omega, q.low, fun k h1 h2 => ?_, fun k h1 h2 => ?_⟩
  · simp only [vset]; rw [if_neg (by omega), if_neg (by omega)]; exact q.tail
  · simp only [vset]; rw [if_neg (by omega), if_pos trivial]; push_cast; rfl
  · simp only [vset]
    by_cases e : k = h + N
    · subst e; rw [if_pos (by rw [Nat.add_mod_right]), if_neg (by omega)]; push_cast; rfl
    · have := mod_ne (N := N) (h := h) (k := k) (k' := h) (by omega) (by omega) (Nat.le_refl _) (by omega) (show k ≠ h by omega)
      rw [if_neg (by omega), if_neg (by omega)]; exact q.turn k (by omega) (by omega)
  · have := mod_ne (N := N) (h := h) (k := k) (k' := h) (by omega) (by omega) (Nat.le_refl _) (by omega) (show k ≠ h by omega)
    simp only [vset]
    rw [if_neg (by omega), if_neg (by omega)]; exact q.item k (by omega) h2
/-- Pipes of one bell, a choice, a row of cases. -/
structure Bench (R : Nat → Pipe) (n bell tick c lb : Nat) (it : Nat → Nat → Int) (w : World) (h t : Nat → Nat) (bv tv : Int) : Prop where
  pipes : ∀ j, j < n → ∃ val, PipeIs (R j) w val ∧ PQ (R j).N val (h j) (t j) (it j)
  bells : ∀ j, j < n → (R j).bell = bell
  order : ∀ i j, i < j → j < n → (R i).hi ≤ (R j).lo
  hiLe : ∀ j, j < n → (R j).hi ≤ w.heap.size
  bellC : CellB w bell bv
  tickC : CellB w tick tv
  cO : w.heap[c]? = some (choiceO bell tick)
  row : CaseRow w lb n R
  out : ∀ j, j < n → ¬ (R j).own tick ∧ ¬ (R j).own c ∧ ¬ (R j).own lb
  bt : tick ≠ bell
section
variable {R : Nat → Pipe} {n bell tick c lb : Nat} {it : Nat → Nat → Int} {w W : World} {h t : Nat → Nat} {bv tv : Int}
theorem CaseRow.kept {S : Nat → Prop} (hr : CaseRow w lb n R) (hk : Keeps w W S) (hS : ¬ S lb) : CaseRow W lb n R := by
  obtain ⟨cur, hc, hx⟩ := hr
  exact ⟨cur, hk.heap hc hS, hx⟩
theorem Bench.kept (B : Bench R n bell tick c lb it w h t bv tv) (hk : Keeps w W (fun _ => False)) : Bench R n bell tick c lb it W h t bv tv :=
  ⟨fun j hj => let ⟨val, a, b⟩ := B.pipes j hj; ⟨val, a.kept hk fun _ _ x => x, b⟩, B.bells, B.order, fun j hj => Nat.le_trans (B.hiLe j hj) hk.size, hk.heap B.bellC fun x => x, hk.heap B.tickC fun x => x, hk.heap B.cO fun x => x, B.row.kept hk fun x => x, B.out, B.bt⟩
/-- What lies above all of it does not matter. -/
theorem Bench.keptAbove {w0 : World} {h0 t0 : Nat → Nat} {b0 v0 : Int} (B : Bench R n bell tick c lb it w h t bv tv) (B0 : Bench R n bell tick c lb it w0 h0 t0 b0 v0) (hk : Keeps w W (fun b => w0.heap.size ≤ b)) : Bench R n bell tick c lb it W h t bv tv := by
  have l1 : bell < w0.heap.size := lt_of_heap B0.bellC
  have l2 : tick < w0.heap.size := lt_of_heap B0.tickC
  have l3 : c < w0.heap.size := lt_of_heap B0.cO
  have l4 : lb < w0.heap.size := by obtain ⟨cur, hc, _⟩ := B0.row; exact lt_of_heap hc
  exact ⟨fun j hj => let ⟨val, a, b⟩ := B.pipes j hj; ⟨val, a.kept hk fun x hx hs => by have := hx.2; have := B0.hiLe j hj; omega, b⟩, B.bells, B.order, fun j hj => Nat.le_trans (B.hiLe j hj) hk.size, hk.heap B.bellC (by omega), hk.heap B.tickC (by omega), hk.heap B.cO (by omega), B.row.kept hk (by omega), B.out, B.bt⟩
theorem Bench.apart (B : Bench R n bell tick c lb it w h t bv tv) {i j : Nat} (hi : i < n) (hj : j < n) (hne : i ≠ j) {b : Nat} (h1 : (R i).own b) : ¬ (R j).own b := fun h2 => by
  obtain ⟨_, hP, _⟩ := B.pipes i hi
  obtain ⟨_, hQ, _⟩ := B.pipes j hj
  rcases Nat.lt_or_gt_of_ne hne with x | x
  · have := B.order i j x hj; have := h1.2; have := h2.1; omega
  · have := B.order j i x hi; have := h2.2; have := h1.1; omega
/-- One pipe is turned, and the bell. -/
theorem Bench.turn (B : Bench R n bell tick c lb it w h t bv tv) {i : Nat} (hi : i < n) {val : Nat → Int} {h' t' : Nat} {bv' : Int} (hP : PipeIs (R i) W val) (hQ : PQ (R i).N val h' t' (it i)) (hb : CellB W bell bv')
    (hk : Keeps w W (fun b => (R i).own b ∨ b = bell)) : Bench R n bell tick c lb it W (fun j => if j = i then h' else h j) (fun j => if j = i then t' else t j) bv' tv := by
  have hcb : c ≠ bell := fun e => by
    have h1 := B.cO; have h2 : w.heap[bell]? = some (cellO bv) := B.bellC
    rw [e, h2] at h1; simp [cellO, choiceO] at h1
  have hlb : lb ≠ bell := fun e => by
    obtain ⟨cur, h1, _⟩ := B.row; have h2 : w.heap[bell]? = some (cellO bv) := B.bellC
    rw [e, h2] at h1; simp [cellO] at h1
  refine ⟨fun j hj => ?_, B.bells, B.order, fun j hj => Nat.le_trans (B.hiLe j hj) hk.size, hb, hk.heap B.tickC fun x => x.elim (B.out i hi).1 B.bt, hk.heap B.cO fun x => x.elim (B.out i hi).2.1 hcb, B.row.kept hk fun x => x.elim (B.out i hi).2.2 hlb, B.out, B.bt⟩
  by_cases e : j = i
  · subst e; simp only [if_true]; exact ⟨val, hP, hQ⟩
  · simp only [if_neg e]
    obtain ⟨v, a, b⟩ := B.pipes j hj
    exact ⟨v, a.kept hk fun x hx hs => hs.elim (fun y => B.apart hj hi e hx y) fun y => by subst y; have := hx.1; have := a.bellOut; rw [B.bells j hj] at this; omega, b⟩
end
end Go.Proofs.Ytekmbijlaonnmaa.Z
