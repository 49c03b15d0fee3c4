/-
  The calls of a cell by whoever has no live thread: contracts.
-/
import Derived.Test.YtekmbijlaonnmaaZEv
import Derived.Test.YtekmbijlaonnmaaRows
import Derived.WalkKit
import Derived.Conc.AtomicLaws2
import Derived.Conc.MarkLaws
import Derived.Laws.LoneSync
import Derived.Conc.SmallLaws
import Derived.Lib.Hide
set_option linter.unusedSimpArgs false
set_option linter.unusedVariables false
namespace Go.Proofs.Ytekmbijlaonnmaa.Z
open Go.Conc
@[go_sem] theorem zinfo224 : (Try.prog.info? 224).isSome = true := by kernel_rfl
/-- Block c is a cell that New made, that holds v and by which nobody sleeps. -/
def CellB (w : World) (c : Nat) (v : Int) : Prop := w.heap[c]? = some (.cells #[.int .i64 v, .bool true, .int .i32 0, .int .u32 0, .chan none] 224 (0, 0))
theorem cell?_of {w : World} {c o : Nat} {cs : Array Value} {t : TypeId} {f : Nat × Nat} {v : Value} (h : w.heap[c]? = some (.cells cs t f)) (hv : cs[o]? = some v) : w.cell? ⟨c, o, none⟩ = some v := by
  simp [World.cell?, h, hv]
theorem frozen?_of {w : World} {c o : Nat} {cs : Array Value} {t : TypeId} (h : w.heap[c]? = some (.cells cs t (0, 0))) : w.frozen? ⟨c, o, none⟩ = false := by
  simp [World.frozen?, h]
theorem heap_set_self {w : World} {c o : Nat} {cs : Array Value} {t : TypeId} {f : Nat × Nat} (h : w.heap[c]? = some (.cells cs t f)) (v : Value) : (w.setCell ⟨c, o, none⟩ v).heap[c]? = some (.cells (cs.setIfInBounds o v) t f) := by
  simp [World.setCell, Array.getElem?_modify, h]
theorem heap_set_ne {w : World} {c c' o : Nat} (hne : c ≠ c') (v : Value) : (w.setCell ⟨c, o, none⟩ v).heap[c']? = w.heap[c']? := by
  simp [World.setCell, Array.getElem?_modify, hne]
theorem heap_set_size (w : World) (a : Addr) (v : Value) : (w.setCell a v).heap.size = w.heap.size := by simp [World.setCell]
theorem world_ext {w w' : World} (h : w.heap = w'.heap) (h1 : w.tape = w'.tape) (h2 : w.drawn = w'.drawn) (h3 : w.os = w'.os) (h4 : w.output = w'.output) : w = w' := by
  cases w; cases w'; simp_all
/-- A cell is turned and turned back. -/
theorem set_back {w : World} {c o : Nat} {cs : Array Value} {t : TypeId} {f : Nat × Nat} {v x : Value} (h : w.heap[c]? = some (.cells cs t f)) (hv : cs[o]? = some v) : (w.setCell ⟨c, o, none⟩ x).setCell ⟨c, o, none⟩ v = w := by
  refine world_ext ?_ rfl rfl rfl rfl
  apply Array.ext_getElem?
  intro i
  by_cases e : c = i
  · subst e
    rw [heap_set_self (heap_set_self h x) v, h]
    congr 2
    apply Array.ext_getElem?
    intro j
    by_cases ej : o = j
    · subst ej
      obtain ⟨hlt, e2⟩ := Array.getElem?_eq_some_iff.1 hv
      simp [hlt, e2]
    · simp [Array.getElem?_setIfInBounds_ne ej]
  · rw [heap_set_ne e, heap_set_ne e]
section
variable {main : Bool} {D : World → World → Array Event → Prop} (hI : DI D) {n : Nat}
include hI
theorem live_nil (w : World) : CallZ Try.prog main D 127 #[.pointer none] w n fun v W m => v = .bool false ∧ W = w ∧ m = n := by
  refine callZ_of Try.func127 rfl fun c' cs => ?_
  simp only [Try.ntmps127, List.size_toArray, List.length_cons, List.length_nil, Nat.reduceAdd, Nat.reduceSub, Array.replicate_succ, Array.replicate_zero, List.push_toArray, List.append_toArray, List.nil_append, List.cons_append]
  (repeat (first | (first | refine gz_seq hI ?_ | refine gz_block hI ?_ | refine gz_region_end hI ?_ | refine gz_skip hI ?_ | refine gz_inBlock hI ?_ | refine gz_label hI ?_ | refine gz_scope hI ?_ | refine gz_inScope hI ?_ | refine gz_exit hI rfl ?_) | (refine gz_region hI ?_; simp only [List.size_toArray, List.length_cons, List.length_nil, Nat.reduceAdd, Nat.zero_add, List.range, List.range.loop]) | (refine gz_rd hI rfl (by rfl) (by rfl) (by decide) (fun dd e he => by simp [go_sem, *] at he <;> (subst he; exact ⟨_, _, _, rfl, by assumption⟩)) (fun dd K hK => ?_); go_simp; refine hK _ _ rfl ?_; clear hK K; (try walk_nrm)) | (refine gz_unwanted hI rfl (by rfl) ?_; try walk_nrm) | (first | refine gz_cond_t hI rfl ?_ | refine gz_cond_f hI rfl ?_)))
  exact gz_return hI rfl Try.func127 (resultsC_tmp rfl _)  ⟨rfl, rfl, rfl⟩
theorem none_made {w : World} {c : Nat} {v : Int} (h : CellB w c v) : CallZ Try.prog main D 126 #[.pointer (some ⟨c, 0, none⟩)] w n fun v W m => v = .bool false ∧ W = w ∧ m = n := by
  have h1 : w.cell? ⟨c, 1, none⟩ = some (.bool true) := cell?_of h rfl
  clear h
  refine callZ_of Try.func126 rfl fun c' cs => ?_
  simp only [Try.ntmps126, List.size_toArray, List.length_cons, List.length_nil, Nat.reduceAdd, Nat.reduceSub, Array.replicate_succ, Array.replicate_zero, List.push_toArray, List.append_toArray, List.nil_append, List.cons_append]
  (repeat (first | (first | refine gz_seq hI ?_ | refine gz_block hI ?_ | refine gz_region_end hI ?_ | refine gz_skip hI ?_ | refine gz_inBlock hI ?_ | refine gz_label hI ?_ | refine gz_scope hI ?_ | refine gz_inScope hI ?_ | refine gz_exit hI rfl ?_) | (refine gz_region hI ?_; simp only [List.size_toArray, List.length_cons, List.length_nil, Nat.reduceAdd, Nat.zero_add, List.range, List.range.loop]) | (refine gz_rd hI rfl (by rfl) (by rfl) (by decide) (fun dd e he => by simp [go_sem, *] at he <;> (subst he; exact ⟨_, _, _, rfl, by assumption⟩)) (fun dd K hK => ?_); go_simp; refine hK _ _ rfl ?_; clear hK K; (try walk_nrm)) | (refine gz_unwanted hI rfl (by rfl) ?_; try walk_nrm) | (first | refine gz_cond_t hI rfl ?_ | refine gz_cond_f hI rfl ?_)))
  exact gz_return hI rfl Try.func126 (resultsC_tmp rfl _)  ⟨rfl, rfl, rfl⟩
end
theorem at_cell {w : World} {d : Nat} {a : Addr} {v : Value} (h : w.cell? a = some v) : (w.at d).cell? a = some v := h
theorem at_frozen {w : World} {d : Nat} {a : Addr} (h : w.frozen? a = false) : (w.at d).frozen? a = false := h
section
variable {main : Bool} {n : Nat}
/-- (*atomic.Int64).Load -/
theorem aload {w : World} {c : Nat} {v : Int} (h : w.cell? ⟨c, 0, none⟩ = some (.int .i64 v)) : CallZ Try.prog main DT 129 #[.pointer (some ⟨c, 0, none⟩)] w n fun x W m => x = .int .i64 v ∧ W = w ∧ m = n := by
  have hI := di_T
  refine callZ_of Try.func129 rfl fun c' cs => ?_
  simp only [Try.ntmps129, List.size_toArray, List.length_cons, List.length_nil, Nat.reduceAdd, Nat.reduceSub, Array.replicate_succ, Array.replicate_zero, List.push_toArray, List.append_toArray, List.nil_append, List.cons_append]
  (repeat (first | (first | refine gz_seq hI ?_ | refine gz_block hI ?_ | refine gz_region_end hI ?_ | refine gz_skip hI ?_ | refine gz_inBlock hI ?_ | refine gz_label hI ?_ | refine gz_scope hI ?_ | refine gz_inScope hI ?_ | refine gz_exit hI rfl ?_) | (refine gz_region hI ?_; simp only [List.size_toArray, List.length_cons, List.length_nil, Nat.reduceAdd, Nat.zero_add, List.range, List.range.loop]) | (refine gz_rd hI rfl (by rfl) (by rfl) (by decide) (fun dd e he => by simp [go_sem, *] at he <;> (subst he; exact ⟨_, _, _, rfl, by assumption⟩)) (fun dd K hK => ?_); go_simp; refine hK _ _ rfl ?_; clear hK K; (try walk_nrm)) | (refine gz_unwanted hI rfl (by rfl) ?_; try walk_nrm) | (first | refine gz_cond_t hI rfl ?_ | refine gz_cond_f hI rfl ?_)))
  refine gz_go rfl (fun d => stepG_load_atomic rfl (by rfl) (by decide) rfl Try.func196 (by kernel_rfl) (by kernel_rfl) (by kernel_rfl) .i64 (by kernel_rfl) rfl (at_cell h)) (fun _ => trivial) ?_
  walk_nrm
  (repeat (first | (first | refine gz_seq hI ?_ | refine gz_block hI ?_ | refine gz_region_end hI ?_ | refine gz_skip hI ?_ | refine gz_inBlock hI ?_ | refine gz_label hI ?_ | refine gz_scope hI ?_ | refine gz_inScope hI ?_ | refine gz_exit hI rfl ?_) | (refine gz_region hI ?_; simp only [List.size_toArray, List.length_cons, List.length_nil, Nat.reduceAdd, Nat.zero_add, List.range, List.range.loop]) | (refine gz_rd hI rfl (by rfl) (by rfl) (by decide) (fun dd e he => by simp [go_sem, *] at he <;> (subst he; exact ⟨_, _, _, rfl, by assumption⟩)) (fun dd K hK => ?_); go_simp; refine hK _ _ rfl ?_; clear hK K; (try walk_nrm)) | (refine gz_unwanted hI rfl (by rfl) ?_; try walk_nrm) | (first | refine gz_cond_t hI rfl ?_ | refine gz_cond_f hI rfl ?_)))
  exact gz_return hI rfl Try.func129 (resultsC_tmp rfl _)  ⟨rfl, rfl, rfl⟩
theorem load_free {w : World} {c : Nat} {v : Int} (h : CellB w c v) : CallZ Try.prog main DT 33 #[.pointer (some ⟨c, 0, none⟩), .pointer none] w n fun x W m => x = .int .i64 v ∧ W = w ∧ m = n := by
  have hI := di_T
  refine callZ_of Try.func33 rfl fun c' cs => ?_
  simp only [Try.ntmps33, List.size_toArray, List.length_cons, List.length_nil, Nat.reduceAdd, Nat.reduceSub, Array.replicate_succ, Array.replicate_zero, List.push_toArray, List.append_toArray, List.nil_append, List.cons_append]
  (repeat (first | (first | refine gz_seq hI ?_ | refine gz_block hI ?_ | refine gz_region_end hI ?_ | refine gz_skip hI ?_ | refine gz_inBlock hI ?_ | refine gz_label hI ?_ | refine gz_scope hI ?_ | refine gz_inScope hI ?_ | refine gz_exit hI rfl ?_) | (refine gz_region hI ?_; simp only [List.size_toArray, List.length_cons, List.length_nil, Nat.reduceAdd, Nat.zero_add, List.range, List.range.loop]) | (refine gz_rd hI rfl (by rfl) (by rfl) (by decide) (fun dd e he => by simp [go_sem, *] at he <;> (subst he; exact ⟨_, _, _, rfl, by assumption⟩)) (fun dd K hK => ?_); go_simp; refine hK _ _ rfl ?_; clear hK K; (try walk_nrm)) | (refine gz_unwanted hI rfl (by rfl) ?_; try walk_nrm) | (first | refine gz_cond_t hI rfl ?_ | refine gz_cond_f hI rfl ?_)))
  refine gz_callf hI rfl (by rfl) (by decide) rfl rfl Try.func126 (by rfl) rfl (none_made hI h) (by simp [Act.eval]) ?_
  rintro _ _ _ ⟨rfl, rfl, rfl⟩
  walk_nrm
  (repeat (first | (first | refine gz_seq hI ?_ | refine gz_block hI ?_ | refine gz_region_end hI ?_ | refine gz_skip hI ?_ | refine gz_inBlock hI ?_ | refine gz_label hI ?_ | refine gz_scope hI ?_ | refine gz_inScope hI ?_ | refine gz_exit hI rfl ?_) | (refine gz_region hI ?_; simp only [List.size_toArray, List.length_cons, List.length_nil, Nat.reduceAdd, Nat.zero_add, List.range, List.range.loop]) | (refine gz_rd hI rfl (by rfl) (by rfl) (by decide) (fun dd e he => by simp [go_sem, *] at he <;> (subst he; exact ⟨_, _, _, rfl, by assumption⟩)) (fun dd K hK => ?_); go_simp; refine hK _ _ rfl ?_; clear hK K; (try walk_nrm)) | (refine gz_unwanted hI rfl (by rfl) ?_; try walk_nrm) | (first | refine gz_cond_t hI rfl ?_ | refine gz_cond_f hI rfl ?_)))
  refine gz_callf hI rfl (by rfl) (by decide) rfl rfl Try.func127 (by rfl) rfl (live_nil hI _) (by simp [Act.eval]) ?_
  rintro _ _ _ ⟨rfl, rfl, rfl⟩
  walk_nrm
  (repeat (first | (first | refine gz_seq hI ?_ | refine gz_block hI ?_ | refine gz_region_end hI ?_ | refine gz_skip hI ?_ | refine gz_inBlock hI ?_ | refine gz_label hI ?_ | refine gz_scope hI ?_ | refine gz_inScope hI ?_ | refine gz_exit hI rfl ?_) | (refine gz_region hI ?_; simp only [List.size_toArray, List.length_cons, List.length_nil, Nat.reduceAdd, Nat.zero_add, List.range, List.range.loop]) | (refine gz_rd hI rfl (by rfl) (by rfl) (by decide) (fun dd e he => by simp [go_sem, *] at he <;> (subst he; exact ⟨_, _, _, rfl, by assumption⟩)) (fun dd K hK => ?_); go_simp; refine hK _ _ rfl ?_; clear hK K; (try walk_nrm)) | (refine gz_unwanted hI rfl (by rfl) ?_; try walk_nrm) | (first | refine gz_cond_t hI rfl ?_ | refine gz_cond_f hI rfl ?_)))
  refine gz_callf hI rfl (by rfl) (by decide) rfl rfl Try.func129 (by rfl) rfl (aload (cell?_of h rfl)) (by simp [Act.eval]) ?_
  rintro _ _ _ ⟨rfl, rfl, rfl⟩
  walk_nrm
  (repeat (first | (first | refine gz_seq hI ?_ | refine gz_block hI ?_ | refine gz_region_end hI ?_ | refine gz_skip hI ?_ | refine gz_inBlock hI ?_ | refine gz_label hI ?_ | refine gz_scope hI ?_ | refine gz_inScope hI ?_ | refine gz_exit hI rfl ?_) | (refine gz_region hI ?_; simp only [List.size_toArray, List.length_cons, List.length_nil, Nat.reduceAdd, Nat.zero_add, List.range, List.range.loop]) | (refine gz_rd hI rfl (by rfl) (by rfl) (by decide) (fun dd e he => by simp [go_sem, *] at he <;> (subst he; exact ⟨_, _, _, rfl, by assumption⟩)) (fun dd K hK => ?_); go_simp; refine hK _ _ rfl ?_; clear hK K; (try walk_nrm)) | (refine gz_unwanted hI rfl (by rfl) ?_; try walk_nrm) | (first | refine gz_cond_t hI rfl ?_ | refine gz_cond_f hI rfl ?_)))
  exact gz_return hI rfl Try.func33 (resultsC_tmp rfl _)  ⟨rfl, rfl, rfl⟩
/-- (*internal/sync.Mutex).Lock, free. -/
theorem ilock {w : World} {c : Nat} {v : Int} (h : CellB w c v) : CallZ Try.prog main DT 238 #[.pointer (some ⟨c, 2, none⟩)] w n fun x W m => W = w.setCell ⟨c, 2, none⟩ (.int .i32 1) ∧ m = n := by
  have hI := di_T
  have h2 : w.cell? ⟨c, 2, none⟩ = some (.int .i32 0) := cell?_of h rfl
  have h3 : w.frozen? ⟨c, 2, none⟩ = false := frozen?_of h
  refine callZ_of Try.func238 rfl fun c' cs => ?_
  simp only [Try.ntmps238, List.size_toArray, List.length_cons, List.length_nil, Nat.reduceAdd, Nat.reduceSub, Array.replicate_succ, Array.replicate_zero, List.push_toArray, List.append_toArray, List.nil_append, List.cons_append]
  repeat (first | (first | refine gz_seq hI ?_ | refine gz_block hI ?_ | refine gz_region_end hI ?_ | refine gz_skip hI ?_ | refine gz_inBlock hI ?_ | refine gz_label hI ?_ | refine gz_scope hI ?_ | refine gz_inScope hI ?_ | refine gz_exit hI rfl ?_) | (refine gz_region hI ?_; simp only [List.size_toArray, List.length_cons, List.length_nil, Nat.reduceAdd, Nat.zero_add, List.range, List.range.loop]))
  refine gz_go rfl (fun d => stepG_mark0 .disable (by simp) rfl (by rfl) (by decide) rfl Try.func251 (by kernel_rfl) (by kernel_rfl) (by kernel_rfl) (by kernel_rfl)) (fun _ => trivial) ?_
  walk_nrm
  repeat (first | (first | refine gz_seq hI ?_ | refine gz_block hI ?_ | refine gz_region_end hI ?_ | refine gz_skip hI ?_ | refine gz_inBlock hI ?_ | refine gz_label hI ?_ | refine gz_scope hI ?_ | refine gz_inScope hI ?_ | refine gz_exit hI rfl ?_) | (refine gz_region hI ?_; simp only [List.size_toArray, List.length_cons, List.length_nil, Nat.reduceAdd, Nat.zero_add, List.range, List.range.loop]))
  (refine gz_rd hI rfl (by rfl) (by rfl) (by decide) (fun dd e he => by simp [go_sem, *] at he <;> (subst he; exact ⟨_, _, _, rfl, by assumption⟩)) (fun dd K hK => ?_); go_simp; refine hK _ _ rfl ?_; clear hK K; (try walk_nrm))
  (refine gz_rd hI rfl (by rfl) (by rfl) (by decide) (fun dd e he => by simp [go_sem, *] at he <;> (subst he; exact ⟨_, _, _, rfl, by assumption⟩)) (fun dd K hK => ?_); go_simp; refine hK _ _ rfl ?_; clear hK K; (try walk_nrm))
  (refine gz_rd hI rfl (by rfl) (by rfl) (by decide) (fun dd e he => by simp [go_sem, *] at he <;> (subst he; exact ⟨_, _, _, rfl, by assumption⟩)) (fun dd K hK => ?_); go_simp; refine hK _ _ rfl ?_; clear hK K; (try walk_nrm))
  refine gz_go (W := w.setCell ⟨c, 2, none⟩ (.int .i32 1)) rfl (fun d => stepG_cas_hit rfl (by rfl) (by decide) rfl Try.func252 (by kernel_rfl) (by kernel_rfl) (by kernel_rfl) .i32 (by kernel_rfl) rfl rfl rfl (at_cell h2) (at_frozen h3)) (fun _ => trivial) ?_
  have h2' : (w.setCell ⟨c, 2, none⟩ (.int .i32 1)).cell? ⟨c, 2, none⟩ = some (.int .i32 1) := cell?_of (heap_set_self h _) rfl
  generalize w.setCell ⟨c, 2, none⟩ (.int .i32 1) = w1 at *
  walk_nrm
  (repeat (first | (first | refine gz_seq hI ?_ | refine gz_block hI ?_ | refine gz_region_end hI ?_ | refine gz_skip hI ?_ | refine gz_inBlock hI ?_ | refine gz_label hI ?_ | refine gz_scope hI ?_ | refine gz_inScope hI ?_ | refine gz_exit hI rfl ?_) | (refine gz_region hI ?_; simp only [List.size_toArray, List.length_cons, List.length_nil, Nat.reduceAdd, Nat.zero_add, List.range, List.range.loop]) | (refine gz_rd hI rfl (by rfl) (by rfl) (by decide) (fun dd e he => by simp [go_sem, *] at he <;> (subst he; exact ⟨_, _, _, rfl, by assumption⟩)) (fun dd K hK => ?_); go_simp; refine hK _ _ rfl ?_; clear hK K; (try walk_nrm)) | (refine gz_unwanted hI rfl (by rfl) ?_; try walk_nrm) | (first | refine gz_cond_t hI rfl ?_ | refine gz_cond_f hI rfl ?_)))
  refine gz_go rfl (fun d => stepG_mark0 .enable (by simp) rfl (by rfl) (by decide) rfl Try.func253 (by kernel_rfl) (by kernel_rfl) (by kernel_rfl) (by kernel_rfl)) (fun _ => trivial) ?_
  walk_nrm
  have hcv := fun d => run_convert_to_unsafe (P := Try.prog) (src := 397) (dst := 401) Try.underlying397 Try.underlying401 (by kernel_rfl) (at_cell (d := d) h2')
  have hce := fun d => events_convert_to_unsafe (P := Try.prog) (src := 397) (dst := 401) Try.underlying397 Try.underlying401 (by kernel_rfl) (at_cell (d := d) h2') (es := #[])
  (repeat (first | (first | refine gz_seq hI ?_ | refine gz_block hI ?_ | refine gz_region_end hI ?_ | refine gz_skip hI ?_ | refine gz_inBlock hI ?_ | refine gz_label hI ?_ | refine gz_scope hI ?_ | refine gz_inScope hI ?_ | refine gz_exit hI rfl ?_) | (refine gz_region hI ?_; simp only [List.size_toArray, List.length_cons, List.length_nil, Nat.reduceAdd, Nat.zero_add, List.range, List.range.loop]) | (refine gz_rd hI rfl (by rfl) (by rfl) (by decide) (fun dd e he => by simp [go_sem, *] at he <;> (subst he; exact ⟨_, _, _, rfl, by assumption⟩)) (fun dd K hK => ?_); go_simp; refine hK _ _ rfl ?_; clear hK K; (try walk_nrm)) | (refine gz_unwanted hI rfl (by rfl) ?_; try walk_nrm) | (first | refine gz_cond_t hI rfl ?_ | refine gz_cond_f hI rfl ?_)))
  refine gz_go rfl (fun d => stepG_markAt .acquire (by simp) rfl (by rfl) (by decide) rfl Try.func254 (by kernel_rfl) (by kernel_rfl) (by kernel_rfl) (by kernel_rfl) (ad := ⟨c, 2, none⟩) (by simp [Act.eval])) (fun _ => trivial) ?_
  walk_nrm
  (repeat (first | (first | refine gz_seq hI ?_ | refine gz_block hI ?_ | refine gz_region_end hI ?_ | refine gz_skip hI ?_ | refine gz_inBlock hI ?_ | refine gz_label hI ?_ | refine gz_scope hI ?_ | refine gz_inScope hI ?_ | refine gz_exit hI rfl ?_) | (refine gz_region hI ?_; simp only [List.size_toArray, List.length_cons, List.length_nil, Nat.reduceAdd, Nat.zero_add, List.range, List.range.loop]) | (refine gz_rd hI rfl (by rfl) (by rfl) (by decide) (fun dd e he => by simp [go_sem, *] at he <;> (subst he; exact ⟨_, _, _, rfl, by assumption⟩)) (fun dd K hK => ?_); go_simp; refine hK _ _ rfl ?_; clear hK K; (try walk_nrm)) | (refine gz_unwanted hI rfl (by rfl) ?_; try walk_nrm) | (first | refine gz_cond_t hI rfl ?_ | refine gz_cond_f hI rfl ?_)))
  exact gz_return hI rfl Try.func238 (resultsC_none rfl _)  ⟨rfl, by simp [deafBehind]⟩
/-- (*internal/sync.Mutex).Unlock, nobody waiting. -/
theorem iunlock {w : World} {c : Nat} (h2 : w.cell? ⟨c, 2, none⟩ = some (.int .i32 1)) (h3 : w.frozen? ⟨c, 2, none⟩ = false) : CallZ Try.prog main DT 239 #[.pointer (some ⟨c, 2, none⟩)] w n fun x W m => W = w.setCell ⟨c, 2, none⟩ (.int .i32 0) ∧ m = n := by
  have hI := di_T
  have hcv := fun d => run_convert_to_unsafe (P := Try.prog) (src := 397) (dst := 401) Try.underlying397 Try.underlying401 (by kernel_rfl) (at_cell (d := d) h2)
  have hce := fun d => events_convert_to_unsafe (P := Try.prog) (src := 397) (dst := 401) Try.underlying397 Try.underlying401 (by kernel_rfl) (at_cell (d := d) h2) (es := #[])
  refine callZ_of Try.func239 rfl fun c' cs => ?_
  simp only [Try.ntmps239, List.size_toArray, List.length_cons, List.length_nil, Nat.reduceAdd, Nat.reduceSub, Array.replicate_succ, Array.replicate_zero, List.push_toArray, List.append_toArray, List.nil_append, List.cons_append]
  (repeat (first | (first | refine gz_seq hI ?_ | refine gz_block hI ?_ | refine gz_region_end hI ?_ | refine gz_skip hI ?_ | refine gz_inBlock hI ?_ | refine gz_label hI ?_ | refine gz_scope hI ?_ | refine gz_inScope hI ?_ | refine gz_exit hI rfl ?_) | (refine gz_region hI ?_; simp only [List.size_toArray, List.length_cons, List.length_nil, Nat.reduceAdd, Nat.zero_add, List.range, List.range.loop]) | (refine gz_rd hI rfl (by rfl) (by rfl) (by decide) (fun dd e he => by simp [go_sem, *] at he <;> (subst he; exact ⟨_, _, _, rfl, by assumption⟩)) (fun dd K hK => ?_); go_simp; refine hK _ _ rfl ?_; clear hK K; (try walk_nrm)) | (refine gz_unwanted hI rfl (by rfl) ?_; try walk_nrm) | (first | refine gz_cond_t hI rfl ?_ | refine gz_cond_f hI rfl ?_)))
  refine gz_go rfl (fun d => stepG_markAt .releaseMerge (by simp) rfl (by rfl) (by decide) rfl Try.func256 (by kernel_rfl) (by kernel_rfl) (by kernel_rfl) (by kernel_rfl) (ad := ⟨c, 2, none⟩) (by simp [Act.eval])) (fun _ => trivial) ?_
  walk_nrm
  (repeat (first | (first | refine gz_seq hI ?_ | refine gz_block hI ?_ | refine gz_region_end hI ?_ | refine gz_skip hI ?_ | refine gz_inBlock hI ?_ | refine gz_label hI ?_ | refine gz_scope hI ?_ | refine gz_inScope hI ?_ | refine gz_exit hI rfl ?_) | (refine gz_region hI ?_; simp only [List.size_toArray, List.length_cons, List.length_nil, Nat.reduceAdd, Nat.zero_add, List.range, List.range.loop]) | (refine gz_rd hI rfl (by rfl) (by rfl) (by decide) (fun dd e he => by simp [go_sem, *] at he <;> (subst he; exact ⟨_, _, _, rfl, by assumption⟩)) (fun dd K hK => ?_); go_simp; refine hK _ _ rfl ?_; clear hK K; (try walk_nrm)) | (refine gz_unwanted hI rfl (by rfl) ?_; try walk_nrm) | (first | refine gz_cond_t hI rfl ?_ | refine gz_cond_f hI rfl ?_)))
  refine gz_go rfl (fun d => stepG_mark0 .disable (by simp) rfl (by rfl) (by decide) rfl Try.func251 (by kernel_rfl) (by kernel_rfl) (by kernel_rfl) (by kernel_rfl)) (fun _ => trivial) ?_
  walk_nrm
  (repeat (first | (first | refine gz_seq hI ?_ | refine gz_block hI ?_ | refine gz_region_end hI ?_ | refine gz_skip hI ?_ | refine gz_inBlock hI ?_ | refine gz_label hI ?_ | refine gz_scope hI ?_ | refine gz_inScope hI ?_ | refine gz_exit hI rfl ?_) | (refine gz_region hI ?_; simp only [List.size_toArray, List.length_cons, List.length_nil, Nat.reduceAdd, Nat.zero_add, List.range, List.range.loop]) | (refine gz_rd hI rfl (by rfl) (by rfl) (by decide) (fun dd e he => by simp [go_sem, *] at he <;> (subst he; exact ⟨_, _, _, rfl, by assumption⟩)) (fun dd K hK => ?_); go_simp; refine hK _ _ rfl ?_; clear hK K; (try walk_nrm)) | (refine gz_unwanted hI rfl (by rfl) ?_; try walk_nrm) | (first | refine gz_cond_t hI rfl ?_ | refine gz_cond_f hI rfl ?_)))
  refine gz_go (W := w.setCell ⟨c, 2, none⟩ (.int .i32 (IntKind.i32.wrap (1 + -1)))) rfl (fun d => stepG_add_atomic rfl (by rfl) (by decide) rfl Try.func257 (by kernel_rfl) (by kernel_rfl) (by kernel_rfl) .i32 (by kernel_rfl) rfl rfl (at_cell h2) (at_frozen h3)) (fun _ => trivial) ?_
  have hw0 : IntKind.i32.wrap (1 + -1) = 0 := by decide
  rw [hw0]
  clear hw0 hcv hce
  generalize w.setCell ⟨c, 2, none⟩ (.int .i32 0) = w1 at *
  walk_nrm
  (repeat (first | (first | refine gz_seq hI ?_ | refine gz_block hI ?_ | refine gz_region_end hI ?_ | refine gz_skip hI ?_ | refine gz_inBlock hI ?_ | refine gz_label hI ?_ | refine gz_scope hI ?_ | refine gz_inScope hI ?_ | refine gz_exit hI rfl ?_) | (refine gz_region hI ?_; simp only [List.size_toArray, List.length_cons, List.length_nil, Nat.reduceAdd, Nat.zero_add, List.range, List.range.loop]) | (refine gz_rd hI rfl (by rfl) (by rfl) (by decide) (fun dd e he => by simp [go_sem, *] at he <;> (subst he; exact ⟨_, _, _, rfl, by assumption⟩)) (fun dd K hK => ?_); go_simp; refine hK _ _ rfl ?_; clear hK K; (try walk_nrm)) | (refine gz_unwanted hI rfl (by rfl) ?_; try walk_nrm) | (first | refine gz_cond_t hI rfl ?_ | refine gz_cond_f hI rfl ?_)))
  refine gz_go rfl (fun d => stepG_mark0 .enable (by simp) rfl (by rfl) (by decide) rfl Try.func253 (by kernel_rfl) (by kernel_rfl) (by kernel_rfl) (by kernel_rfl)) (fun _ => trivial) ?_
  walk_nrm
  (repeat (first | (first | refine gz_seq hI ?_ | refine gz_block hI ?_ | refine gz_region_end hI ?_ | refine gz_skip hI ?_ | refine gz_inBlock hI ?_ | refine gz_label hI ?_ | refine gz_scope hI ?_ | refine gz_inScope hI ?_ | refine gz_exit hI rfl ?_) | (refine gz_region hI ?_; simp only [List.size_toArray, List.length_cons, List.length_nil, Nat.reduceAdd, Nat.zero_add, List.range, List.range.loop]) | (refine gz_rd hI rfl (by rfl) (by rfl) (by decide) (fun dd e he => by simp [go_sem, *] at he <;> (subst he; exact ⟨_, _, _, rfl, by assumption⟩)) (fun dd K hK => ?_); go_simp; refine hK _ _ rfl ?_; clear hK K; (try walk_nrm)) | (refine gz_unwanted hI rfl (by rfl) ?_; try walk_nrm) | (first | refine gz_cond_t hI rfl ?_ | refine gz_cond_f hI rfl ?_)))
  exact gz_return_end hI rfl Try.func239 (resultsC_none rfl _)  ⟨rfl, by simp [deafBehind]⟩
theorem mlock {w : World} {c : Nat} {v : Int} (h : CellB w c v) : CallZ Try.prog main DT 206 #[.pointer (some ⟨c, 2, none⟩)] w n fun x W m => W = w.setCell ⟨c, 2, none⟩ (.int .i32 1) ∧ m = n := by
  have hI := di_T
  refine callZ_of Try.func206 rfl fun c' cs => ?_
  simp only [Try.ntmps206, List.size_toArray, List.length_cons, List.length_nil, Nat.reduceAdd, Nat.reduceSub, Array.replicate_succ, Array.replicate_zero, List.push_toArray, List.append_toArray, List.nil_append, List.cons_append]
  (repeat (first | (first | refine gz_seq hI ?_ | refine gz_block hI ?_ | refine gz_region_end hI ?_ | refine gz_skip hI ?_ | refine gz_inBlock hI ?_ | refine gz_label hI ?_ | refine gz_scope hI ?_ | refine gz_inScope hI ?_ | refine gz_exit hI rfl ?_) | (refine gz_region hI ?_; simp only [List.size_toArray, List.length_cons, List.length_nil, Nat.reduceAdd, Nat.zero_add, List.range, List.range.loop]) | (refine gz_rd hI rfl (by rfl) (by rfl) (by decide) (fun dd e he => by simp [go_sem, *] at he <;> (subst he; exact ⟨_, _, _, rfl, by assumption⟩)) (fun dd K hK => ?_); go_simp; refine hK _ _ rfl ?_; clear hK K; (try walk_nrm)) | (refine gz_unwanted hI rfl (by rfl) ?_; try walk_nrm) | (first | refine gz_cond_t hI rfl ?_ | refine gz_cond_f hI rfl ?_)))
  refine gz_callf hI rfl (by rfl) (by decide) rfl rfl Try.func238 (by rfl) rfl (ilock h) (by simp [Act.eval]) ?_
  rintro _ _ _ ⟨rfl, rfl⟩
  walk_nrm
  (repeat (first | (first | refine gz_seq hI ?_ | refine gz_block hI ?_ | refine gz_region_end hI ?_ | refine gz_skip hI ?_ | refine gz_inBlock hI ?_ | refine gz_label hI ?_ | refine gz_scope hI ?_ | refine gz_inScope hI ?_ | refine gz_exit hI rfl ?_) | (refine gz_region hI ?_; simp only [List.size_toArray, List.length_cons, List.length_nil, Nat.reduceAdd, Nat.zero_add, List.range, List.range.loop]) | (refine gz_rd hI rfl (by rfl) (by rfl) (by decide) (fun dd e he => by simp [go_sem, *] at he <;> (subst he; exact ⟨_, _, _, rfl, by assumption⟩)) (fun dd K hK => ?_); go_simp; refine hK _ _ rfl ?_; clear hK K; (try walk_nrm)) | (refine gz_unwanted hI rfl (by rfl) ?_; try walk_nrm) | (first | refine gz_cond_t hI rfl ?_ | refine gz_cond_f hI rfl ?_)))
  exact gz_return_end hI rfl Try.func206 (resultsC_none rfl _)  ⟨rfl, rfl⟩
/-- (*atomic.Int64).Store, Add, CompareAndSwap, Swap. -/
theorem astore {w : World} {c : Nat} {v : Value} (y : Int) (h : w.cell? ⟨c, 0, none⟩ = some v) (hz : w.frozen? ⟨c, 0, none⟩ = false) : CallZ Try.prog main DT 108 #[.pointer (some ⟨c, 0, none⟩), .int .i64 y] w n fun x W m => W = w.setCell ⟨c, 0, none⟩ (.int .i64 y) ∧ m = n := by
  have hI := di_T
  refine callZ_of Try.func108 rfl fun c' cs => ?_
  simp only [Try.ntmps108, List.size_toArray, List.length_cons, List.length_nil, Nat.reduceAdd, Nat.reduceSub, Array.replicate_succ, Array.replicate_zero, List.push_toArray, List.append_toArray, List.nil_append, List.cons_append]
  (repeat (first | (first | refine gz_seq hI ?_ | refine gz_block hI ?_ | refine gz_region_end hI ?_ | refine gz_skip hI ?_ | refine gz_inBlock hI ?_ | refine gz_label hI ?_ | refine gz_scope hI ?_ | refine gz_inScope hI ?_ | refine gz_exit hI rfl ?_) | (refine gz_region hI ?_; simp only [List.size_toArray, List.length_cons, List.length_nil, Nat.reduceAdd, Nat.zero_add, List.range, List.range.loop]) | (refine gz_rd hI rfl (by rfl) (by rfl) (by decide) (fun dd e he => by simp [go_sem, *] at he <;> (subst he; exact ⟨_, _, _, rfl, by assumption⟩)) (fun dd K hK => ?_); go_simp; refine hK _ _ rfl ?_; clear hK K; (try walk_nrm)) | (refine gz_unwanted hI rfl (by rfl) ?_; try walk_nrm) | (first | refine gz_cond_t hI rfl ?_ | refine gz_cond_f hI rfl ?_)))
  refine gz_go (W := w.setCell ⟨c, 0, none⟩ (.int .i64 y)) rfl (fun d => stepG_store_atomic rfl (by rfl) (by decide) rfl Try.func186 (by kernel_rfl) (by kernel_rfl) (by kernel_rfl) (by kernel_rfl) rfl rfl (at_cell h) (at_frozen hz)) (fun _ => trivial) ?_
  walk_nrm
  (repeat (first | (first | refine gz_seq hI ?_ | refine gz_block hI ?_ | refine gz_region_end hI ?_ | refine gz_skip hI ?_ | refine gz_inBlock hI ?_ | refine gz_label hI ?_ | refine gz_scope hI ?_ | refine gz_inScope hI ?_ | refine gz_exit hI rfl ?_) | (refine gz_region hI ?_; simp only [List.size_toArray, List.length_cons, List.length_nil, Nat.reduceAdd, Nat.zero_add, List.range, List.range.loop]) | (refine gz_rd hI rfl (by rfl) (by rfl) (by decide) (fun dd e he => by simp [go_sem, *] at he <;> (subst he; exact ⟨_, _, _, rfl, by assumption⟩)) (fun dd K hK => ?_); go_simp; refine hK _ _ rfl ?_; clear hK K; (try walk_nrm)) | (refine gz_unwanted hI rfl (by rfl) ?_; try walk_nrm) | (first | refine gz_cond_t hI rfl ?_ | refine gz_cond_f hI rfl ?_)))
  exact gz_return_end hI rfl Try.func108 (resultsC_none rfl _)  ⟨rfl, rfl⟩
theorem aadd {w : World} {c : Nat} {v : Int} (y : Int) (h : w.cell? ⟨c, 0, none⟩ = some (.int .i64 v)) (hz : w.frozen? ⟨c, 0, none⟩ = false) : CallZ Try.prog main DT 182 #[.pointer (some ⟨c, 0, none⟩), .int .i64 y] w n fun x W m => x = .int .i64 (IntKind.i64.wrap (v + y)) ∧ W = w.setCell ⟨c, 0, none⟩ (.int .i64 (IntKind.i64.wrap (v + y))) ∧ m = n := by
  have hI := di_T
  refine callZ_of Try.func182 rfl fun c' cs => ?_
  simp only [Try.ntmps182, List.size_toArray, List.length_cons, List.length_nil, Nat.reduceAdd, Nat.reduceSub, Array.replicate_succ, Array.replicate_zero, List.push_toArray, List.append_toArray, List.nil_append, List.cons_append]
  (repeat (first | (first | refine gz_seq hI ?_ | refine gz_block hI ?_ | refine gz_region_end hI ?_ | refine gz_skip hI ?_ | refine gz_inBlock hI ?_ | refine gz_label hI ?_ | refine gz_scope hI ?_ | refine gz_inScope hI ?_ | refine gz_exit hI rfl ?_) | (refine gz_region hI ?_; simp only [List.size_toArray, List.length_cons, List.length_nil, Nat.reduceAdd, Nat.zero_add, List.range, List.range.loop]) | (refine gz_rd hI rfl (by rfl) (by rfl) (by decide) (fun dd e he => by simp [go_sem, *] at he <;> (subst he; exact ⟨_, _, _, rfl, by assumption⟩)) (fun dd K hK => ?_); go_simp; refine hK _ _ rfl ?_; clear hK K; (try walk_nrm)) | (refine gz_unwanted hI rfl (by rfl) ?_; try walk_nrm) | (first | refine gz_cond_t hI rfl ?_ | refine gz_cond_f hI rfl ?_)))
  refine gz_go (W := w.setCell ⟨c, 0, none⟩ (.int .i64 (IntKind.i64.wrap (v + y)))) rfl (fun d => stepG_add_atomic rfl (by rfl) (by decide) rfl Try.func223 (by kernel_rfl) (by kernel_rfl) (by kernel_rfl) .i64 (by kernel_rfl) rfl rfl (at_cell h) (at_frozen hz)) (fun _ => trivial) ?_
  generalize IntKind.i64.wrap (v + y) = z
  walk_nrm
  (repeat (first | (first | refine gz_seq hI ?_ | refine gz_block hI ?_ | refine gz_region_end hI ?_ | refine gz_skip hI ?_ | refine gz_inBlock hI ?_ | refine gz_label hI ?_ | refine gz_scope hI ?_ | refine gz_inScope hI ?_ | refine gz_exit hI rfl ?_) | (refine gz_region hI ?_; simp only [List.size_toArray, List.length_cons, List.length_nil, Nat.reduceAdd, Nat.zero_add, List.range, List.range.loop]) | (refine gz_rd hI rfl (by rfl) (by rfl) (by decide) (fun dd e he => by simp [go_sem, *] at he <;> (subst he; exact ⟨_, _, _, rfl, by assumption⟩)) (fun dd K hK => ?_); go_simp; refine hK _ _ rfl ?_; clear hK K; (try walk_nrm)) | (refine gz_unwanted hI rfl (by rfl) ?_; try walk_nrm) | (first | refine gz_cond_t hI rfl ?_ | refine gz_cond_f hI rfl ?_)))
  exact gz_return hI rfl Try.func182 (resultsC_tmp rfl _)  ⟨rfl, rfl, rfl⟩
theorem acas_hit {w : World} {c : Nat} {v : Int} (y : Int) (h : w.cell? ⟨c, 0, none⟩ = some (.int .i64 v)) (hz : w.frozen? ⟨c, 0, none⟩ = false) : CallZ Try.prog main DT 183 #[.pointer (some ⟨c, 0, none⟩), .int .i64 v, .int .i64 y] w n fun x W m => x = .bool true ∧ W = w.setCell ⟨c, 0, none⟩ (.int .i64 y) ∧ m = n := by
  have hI := di_T
  refine callZ_of Try.func183 rfl fun c' cs => ?_
  simp only [Try.ntmps183, List.size_toArray, List.length_cons, List.length_nil, Nat.reduceAdd, Nat.reduceSub, Array.replicate_succ, Array.replicate_zero, List.push_toArray, List.append_toArray, List.nil_append, List.cons_append]
  (repeat (first | (first | refine gz_seq hI ?_ | refine gz_block hI ?_ | refine gz_region_end hI ?_ | refine gz_skip hI ?_ | refine gz_inBlock hI ?_ | refine gz_label hI ?_ | refine gz_scope hI ?_ | refine gz_inScope hI ?_ | refine gz_exit hI rfl ?_) | (refine gz_region hI ?_; simp only [List.size_toArray, List.length_cons, List.length_nil, Nat.reduceAdd, Nat.zero_add, List.range, List.range.loop]) | (refine gz_rd hI rfl (by rfl) (by rfl) (by decide) (fun dd e he => by simp [go_sem, *] at he <;> (subst he; exact ⟨_, _, _, rfl, by assumption⟩)) (fun dd K hK => ?_); go_simp; refine hK _ _ rfl ?_; clear hK K; (try walk_nrm)) | (refine gz_unwanted hI rfl (by rfl) ?_; try walk_nrm) | (first | refine gz_cond_t hI rfl ?_ | refine gz_cond_f hI rfl ?_)))
  refine gz_go (W := w.setCell ⟨c, 0, none⟩ (.int .i64 y)) rfl (fun d => stepG_cas_hit rfl (by rfl) (by decide) rfl Try.func224 (by kernel_rfl) (by kernel_rfl) (by kernel_rfl) .i64 (by kernel_rfl) rfl rfl rfl (at_cell h) (at_frozen hz)) (fun _ => trivial) ?_
  walk_nrm
  (repeat (first | (first | refine gz_seq hI ?_ | refine gz_block hI ?_ | refine gz_region_end hI ?_ | refine gz_skip hI ?_ | refine gz_inBlock hI ?_ | refine gz_label hI ?_ | refine gz_scope hI ?_ | refine gz_inScope hI ?_ | refine gz_exit hI rfl ?_) | (refine gz_region hI ?_; simp only [List.size_toArray, List.length_cons, List.length_nil, Nat.reduceAdd, Nat.zero_add, List.range, List.range.loop]) | (refine gz_rd hI rfl (by rfl) (by rfl) (by decide) (fun dd e he => by simp [go_sem, *] at he <;> (subst he; exact ⟨_, _, _, rfl, by assumption⟩)) (fun dd K hK => ?_); go_simp; refine hK _ _ rfl ?_; clear hK K; (try walk_nrm)) | (refine gz_unwanted hI rfl (by rfl) ?_; try walk_nrm) | (first | refine gz_cond_t hI rfl ?_ | refine gz_cond_f hI rfl ?_)))
  exact gz_return hI rfl Try.func183 (resultsC_tmp rfl _)  ⟨rfl, rfl, rfl⟩
theorem acas_miss {w : World} {c : Nat} {v : Int} (o y : Int) (h : w.cell? ⟨c, 0, none⟩ = some (.int .i64 v)) (hz : w.frozen? ⟨c, 0, none⟩ = false) (hne : ¬ v = o) : CallZ Try.prog main DT 183 #[.pointer (some ⟨c, 0, none⟩), .int .i64 o, .int .i64 y] w n fun x W m => x = .bool false ∧ W = w ∧ m = n := by
  have hI := di_T
  refine callZ_of Try.func183 rfl fun c' cs => ?_
  simp only [Try.ntmps183, List.size_toArray, List.length_cons, List.length_nil, Nat.reduceAdd, Nat.reduceSub, Array.replicate_succ, Array.replicate_zero, List.push_toArray, List.append_toArray, List.nil_append, List.cons_append]
  (repeat (first | (first | refine gz_seq hI ?_ | refine gz_block hI ?_ | refine gz_region_end hI ?_ | refine gz_skip hI ?_ | refine gz_inBlock hI ?_ | refine gz_label hI ?_ | refine gz_scope hI ?_ | refine gz_inScope hI ?_ | refine gz_exit hI rfl ?_) | (refine gz_region hI ?_; simp only [List.size_toArray, List.length_cons, List.length_nil, Nat.reduceAdd, Nat.zero_add, List.range, List.range.loop]) | (refine gz_rd hI rfl (by rfl) (by rfl) (by decide) (fun dd e he => by simp [go_sem, *] at he <;> (subst he; exact ⟨_, _, _, rfl, by assumption⟩)) (fun dd K hK => ?_); go_simp; refine hK _ _ rfl ?_; clear hK K; (try walk_nrm)) | (refine gz_unwanted hI rfl (by rfl) ?_; try walk_nrm) | (first | refine gz_cond_t hI rfl ?_ | refine gz_cond_f hI rfl ?_)))
  refine gz_go rfl (fun d => stepG_cas_miss rfl (by rfl) (by decide) rfl Try.func224 (by kernel_rfl) (by kernel_rfl) (by kernel_rfl) .i64 (by kernel_rfl) rfl rfl rfl (at_cell h) (at_frozen hz) hne) (fun _ => trivial) ?_
  walk_nrm
  (repeat (first | (first | refine gz_seq hI ?_ | refine gz_block hI ?_ | refine gz_region_end hI ?_ | refine gz_skip hI ?_ | refine gz_inBlock hI ?_ | refine gz_label hI ?_ | refine gz_scope hI ?_ | refine gz_inScope hI ?_ | refine gz_exit hI rfl ?_) | (refine gz_region hI ?_; simp only [List.size_toArray, List.length_cons, List.length_nil, Nat.reduceAdd, Nat.zero_add, List.range, List.range.loop]) | (refine gz_rd hI rfl (by rfl) (by rfl) (by decide) (fun dd e he => by simp [go_sem, *] at he <;> (subst he; exact ⟨_, _, _, rfl, by assumption⟩)) (fun dd K hK => ?_); go_simp; refine hK _ _ rfl ?_; clear hK K; (try walk_nrm)) | (refine gz_unwanted hI rfl (by rfl) ?_; try walk_nrm) | (first | refine gz_cond_t hI rfl ?_ | refine gz_cond_f hI rfl ?_)))
  exact gz_return hI rfl Try.func183 (resultsC_tmp rfl _)  ⟨rfl, rfl, rfl⟩
set_option maxRecDepth 20000 in
/-- (*Cell).wakes, nobody asleep. -/
theorem wakes_none {w : World} {c : Nat} {v : Int} (h : CellB w c v) : CallZ Try.prog main DT 156 #[.pointer (some ⟨c, 0, none⟩)] w n fun x W m => W = w ∧ m = n := by
  have hI := di_T
  refine callZ_of Try.func156 rfl fun c' cs => ?_
  simp only [Try.ntmps156, List.size_toArray, List.length_cons, List.length_nil, Nat.reduceAdd, Nat.reduceSub, Array.replicate_succ, Array.replicate_zero, List.push_toArray, List.append_toArray, List.nil_append, List.cons_append]
  (repeat (first | (first | refine gz_seq hI ?_ | refine gz_block hI ?_ | refine gz_region_end hI ?_ | refine gz_skip hI ?_ | refine gz_inBlock hI ?_ | refine gz_label hI ?_ | refine gz_scope hI ?_ | refine gz_inScope hI ?_ | refine gz_exit hI rfl ?_) | (refine gz_region hI ?_; simp only [List.size_toArray, List.length_cons, List.length_nil, Nat.reduceAdd, Nat.zero_add, List.range, List.range.loop]) | (refine gz_rd hI rfl (by rfl) (by rfl) (by decide) (fun dd e he => by simp [go_sem, *] at he <;> (subst he; exact ⟨_, _, _, rfl, by assumption⟩)) (fun dd K hK => ?_); go_simp; refine hK _ _ rfl ?_; clear hK K; (try walk_nrm)) | (refine gz_unwanted hI rfl (by rfl) ?_; try walk_nrm) | (first | refine gz_cond_t hI rfl ?_ | refine gz_cond_f hI rfl ?_)))
  refine gz_callf hI rfl (by rfl) (by decide) rfl rfl Try.func206 (by rfl) rfl (mlock h) (by simp [Act.eval]) ?_
  have hb := set_back (o := 2) (v := .int .i32 0) (x := .int .i32 1) h rfl
  have h1 : (w.setCell ⟨c, 2, none⟩ (.int .i32 1)).heap[c]? = _ := heap_set_self h _
  have h2 : (w.setCell ⟨c, 2, none⟩ (.int .i32 1)).cell? ⟨c, 2, none⟩ = some (.int .i32 1) := cell?_of h1 rfl
  have h4 : (w.setCell ⟨c, 2, none⟩ (.int .i32 1)).cell? ⟨c, 4, none⟩ = some (.chan none) := cell?_of h1 rfl
  have h3 : (w.setCell ⟨c, 2, none⟩ (.int .i32 1)).frozen? ⟨c, 2, none⟩ = false := frozen?_of h1
  rintro _ _ _ ⟨rfl, rfl⟩
  clear h1
  generalize w.setCell ⟨c, 2, none⟩ (.int .i32 1) = w1 at *
  have hb' := Lib.hid hb
  clear hb
  walk_nrm
  (repeat (first | (first | refine gz_seq hI ?_ | refine gz_block hI ?_ | refine gz_region_end hI ?_ | refine gz_skip hI ?_ | refine gz_inBlock hI ?_ | refine gz_label hI ?_ | refine gz_scope hI ?_ | refine gz_inScope hI ?_ | refine gz_exit hI rfl ?_) | (refine gz_region hI ?_; simp only [List.size_toArray, List.length_cons, List.length_nil, Nat.reduceAdd, Nat.zero_add, List.range, List.range.loop]) | (refine gz_rd hI rfl (by rfl) (by rfl) (by decide) (fun dd e he => by simp [go_sem, *] at he <;> (subst he; exact ⟨_, _, _, rfl, by assumption⟩)) (fun dd K hK => ?_); go_simp; refine hK _ _ rfl ?_; clear hK K; (try walk_nrm)) | (refine gz_unwanted hI rfl (by rfl) ?_; try walk_nrm) | (first | refine gz_cond_t hI rfl ?_ | refine gz_cond_f hI rfl ?_)))
  refine gz_defer hI rfl (by rfl) (by decide) rfl ?_
  walk_nrm
  (repeat (first | (first | refine gz_seq hI ?_ | refine gz_block hI ?_ | refine gz_region_end hI ?_ | refine gz_skip hI ?_ | refine gz_inBlock hI ?_ | refine gz_label hI ?_ | refine gz_scope hI ?_ | refine gz_inScope hI ?_ | refine gz_exit hI rfl ?_) | (refine gz_region hI ?_; simp only [List.size_toArray, List.length_cons, List.length_nil, Nat.reduceAdd, Nat.zero_add, List.range, List.range.loop]) | (refine gz_rd hI rfl (by rfl) (by rfl) (by decide) (fun dd e he => by simp [go_sem, *] at he <;> (subst he; exact ⟨_, _, _, rfl, by assumption⟩)) (fun dd K hK => ?_); go_simp; refine hK _ _ rfl ?_; clear hK K; (try walk_nrm)) | (refine gz_unwanted hI rfl (by rfl) ?_; try walk_nrm) | (first | refine gz_cond_t hI rfl ?_ | refine gz_cond_f hI rfl ?_)))
  refine gz_end hI ?_
  refine gz_unwind hI rfl Try.func207 (by rfl) rfl ?_
  simp only [Try.ntmps207, Try.f207, List.size_toArray, List.length_cons, List.length_nil, Nat.reduceAdd, Nat.reduceSub, Array.replicate_succ, Array.replicate_zero, List.push_toArray, List.append_toArray, List.nil_append, List.cons_append]
  (repeat (first | (first | refine gz_seq hI ?_ | refine gz_block hI ?_ | refine gz_region_end hI ?_ | refine gz_skip hI ?_ | refine gz_inBlock hI ?_ | refine gz_label hI ?_ | refine gz_scope hI ?_ | refine gz_inScope hI ?_ | refine gz_exit hI rfl ?_) | (refine gz_region hI ?_; simp only [List.size_toArray, List.length_cons, List.length_nil, Nat.reduceAdd, Nat.zero_add, List.range, List.range.loop]) | (refine gz_rd hI rfl (by rfl) (by rfl) (by decide) (fun dd e he => by simp [go_sem, *] at he <;> (subst he; exact ⟨_, _, _, rfl, by assumption⟩)) (fun dd K hK => ?_); go_simp; refine hK _ _ rfl ?_; clear hK K; (try walk_nrm)) | (refine gz_unwanted hI rfl (by rfl) ?_; try walk_nrm) | (first | refine gz_cond_t hI rfl ?_ | refine gz_cond_f hI rfl ?_)))
  refine gz_callf hI rfl (by rfl) (by decide) rfl rfl Try.func239 (by rfl) rfl (iunlock h2 h3) (by simp [Act.eval]) ?_
  rw [hb'.out]
  rintro _ _ _ ⟨rfl, rfl⟩
  walk_nrm
  (repeat (first | (first | refine gz_seq hI ?_ | refine gz_block hI ?_ | refine gz_region_end hI ?_ | refine gz_skip hI ?_ | refine gz_inBlock hI ?_ | refine gz_label hI ?_ | refine gz_scope hI ?_ | refine gz_inScope hI ?_ | refine gz_exit hI rfl ?_) | (refine gz_region hI ?_; simp only [List.size_toArray, List.length_cons, List.length_nil, Nat.reduceAdd, Nat.zero_add, List.range, List.range.loop]) | (refine gz_rd hI rfl (by rfl) (by rfl) (by decide) (fun dd e he => by simp [go_sem, *] at he <;> (subst he; exact ⟨_, _, _, rfl, by assumption⟩)) (fun dd K hK => ?_); go_simp; refine hK _ _ rfl ?_; clear hK K; (try walk_nrm)) | (refine gz_unwanted hI rfl (by rfl) ?_; try walk_nrm) | (first | refine gz_cond_t hI rfl ?_ | refine gz_cond_f hI rfl ?_)))
  refine gz_end hI ?_
  refine gz_leaveD hI rfl rfl Try.func207 (resultsC_none rfl _) rfl ?_
  exact gz_leave hI rfl rfl Try.func156 (resultsC_none rfl _) (retZ_stop ⟨rfl, rfl⟩)
theorem cellB_set {w : World} {c : Nat} {v : Int} (h : CellB w c v) (y : Int) : CellB (w.setCell ⟨c, 0, none⟩ (.int .i64 y)) c y := by
  unfold CellB
  rw [heap_set_self h]
  rfl
theorem store_free {w : World} {c : Nat} {v : Int} (h : CellB w c v) (y : Int) : CallZ Try.prog main DT 64 #[.pointer (some ⟨c, 0, none⟩), .pointer none, .int .i64 y] w n fun x W m => W = w.setCell ⟨c, 0, none⟩ (.int .i64 y) ∧ m = n := by
  have hI := di_T
  refine callZ_of Try.func64 rfl fun c' cs => ?_
  simp only [Try.ntmps64, List.size_toArray, List.length_cons, List.length_nil, Nat.reduceAdd, Nat.reduceSub, Array.replicate_succ, Array.replicate_zero, List.push_toArray, List.append_toArray, List.nil_append, List.cons_append]
  (repeat (first | (first | refine gz_seq hI ?_ | refine gz_block hI ?_ | refine gz_region_end hI ?_ | refine gz_skip hI ?_ | refine gz_inBlock hI ?_ | refine gz_label hI ?_ | refine gz_scope hI ?_ | refine gz_inScope hI ?_ | refine gz_exit hI rfl ?_) | (refine gz_region hI ?_; simp only [List.size_toArray, List.length_cons, List.length_nil, Nat.reduceAdd, Nat.zero_add, List.range, List.range.loop]) | (refine gz_rd hI rfl (by rfl) (by rfl) (by decide) (fun dd e he => by simp [go_sem, *] at he <;> (subst he; exact ⟨_, _, _, rfl, by assumption⟩)) (fun dd K hK => ?_); go_simp; refine hK _ _ rfl ?_; clear hK K; (try walk_nrm)) | (refine gz_unwanted hI rfl (by rfl) ?_; try walk_nrm) | (first | refine gz_cond_t hI rfl ?_ | refine gz_cond_f hI rfl ?_)))
  refine gz_callf hI rfl (by rfl) (by decide) rfl rfl Try.func126 (by rfl) rfl (none_made hI h) (by simp [Act.eval]) ?_
  rintro _ _ _ ⟨rfl, rfl, rfl⟩
  walk_nrm
  (repeat (first | (first | refine gz_seq hI ?_ | refine gz_block hI ?_ | refine gz_region_end hI ?_ | refine gz_skip hI ?_ | refine gz_inBlock hI ?_ | refine gz_label hI ?_ | refine gz_scope hI ?_ | refine gz_inScope hI ?_ | refine gz_exit hI rfl ?_) | (refine gz_region hI ?_; simp only [List.size_toArray, List.length_cons, List.length_nil, Nat.reduceAdd, Nat.zero_add, List.range, List.range.loop]) | (refine gz_rd hI rfl (by rfl) (by rfl) (by decide) (fun dd e he => by simp [go_sem, *] at he <;> (subst he; exact ⟨_, _, _, rfl, by assumption⟩)) (fun dd K hK => ?_); go_simp; refine hK _ _ rfl ?_; clear hK K; (try walk_nrm)) | (refine gz_unwanted hI rfl (by rfl) ?_; try walk_nrm) | (first | refine gz_cond_t hI rfl ?_ | refine gz_cond_f hI rfl ?_)))
  refine gz_callf hI rfl (by rfl) (by decide) rfl rfl Try.func127 (by rfl) rfl (live_nil hI _) (by simp [Act.eval]) ?_
  rintro _ _ _ ⟨rfl, rfl, rfl⟩
  walk_nrm
  (repeat (first | (first | refine gz_seq hI ?_ | refine gz_block hI ?_ | refine gz_region_end hI ?_ | refine gz_skip hI ?_ | refine gz_inBlock hI ?_ | refine gz_label hI ?_ | refine gz_scope hI ?_ | refine gz_inScope hI ?_ | refine gz_exit hI rfl ?_) | (refine gz_region hI ?_; simp only [List.size_toArray, List.length_cons, List.length_nil, Nat.reduceAdd, Nat.zero_add, List.range, List.range.loop]) | (refine gz_rd hI rfl (by rfl) (by rfl) (by decide) (fun dd e he => by simp [go_sem, *] at he <;> (subst he; exact ⟨_, _, _, rfl, by assumption⟩)) (fun dd K hK => ?_); go_simp; refine hK _ _ rfl ?_; clear hK K; (try walk_nrm)) | (refine gz_unwanted hI rfl (by rfl) ?_; try walk_nrm) | (first | refine gz_cond_t hI rfl ?_ | refine gz_cond_f hI rfl ?_)))
  refine gz_callf hI rfl (by rfl) (by decide) rfl rfl Try.func108 (by rfl) rfl (astore y (cell?_of h rfl) (frozen?_of h)) (by simp [Act.eval]) ?_
  rintro _ _ _ ⟨rfl, rfl⟩
  walk_nrm
  (repeat (first | (first | refine gz_seq hI ?_ | refine gz_block hI ?_ | refine gz_region_end hI ?_ | refine gz_skip hI ?_ | refine gz_inBlock hI ?_ | refine gz_label hI ?_ | refine gz_scope hI ?_ | refine gz_inScope hI ?_ | refine gz_exit hI rfl ?_) | (refine gz_region hI ?_; simp only [List.size_toArray, List.length_cons, List.length_nil, Nat.reduceAdd, Nat.zero_add, List.range, List.range.loop]) | (refine gz_rd hI rfl (by rfl) (by rfl) (by decide) (fun dd e he => by simp [go_sem, *] at he <;> (subst he; exact ⟨_, _, _, rfl, by assumption⟩)) (fun dd K hK => ?_); go_simp; refine hK _ _ rfl ?_; clear hK K; (try walk_nrm)) | (refine gz_unwanted hI rfl (by rfl) ?_; try walk_nrm) | (first | refine gz_cond_t hI rfl ?_ | refine gz_cond_f hI rfl ?_)))
  refine gz_callf hI rfl (by rfl) (by decide) rfl rfl Try.func156 (by rfl) rfl (wakes_none (cellB_set h y)) (by simp [Act.eval]) ?_
  rintro _ _ _ ⟨rfl, rfl⟩
  walk_nrm
  (repeat (first | (first | refine gz_seq hI ?_ | refine gz_block hI ?_ | refine gz_region_end hI ?_ | refine gz_skip hI ?_ | refine gz_inBlock hI ?_ | refine gz_label hI ?_ | refine gz_scope hI ?_ | refine gz_inScope hI ?_ | refine gz_exit hI rfl ?_) | (refine gz_region hI ?_; simp only [List.size_toArray, List.length_cons, List.length_nil, Nat.reduceAdd, Nat.zero_add, List.range, List.range.loop]) | (refine gz_rd hI rfl (by rfl) (by rfl) (by decide) (fun dd e he => by simp [go_sem, *] at he <;> (subst he; exact ⟨_, _, _, rfl, by assumption⟩)) (fun dd K hK => ?_); go_simp; refine hK _ _ rfl ?_; clear hK K; (try walk_nrm)) | (refine gz_unwanted hI rfl (by rfl) ?_; try walk_nrm) | (first | refine gz_cond_t hI rfl ?_ | refine gz_cond_f hI rfl ?_)))
  first
  | exact gz_return_end hI rfl Try.func64 (resultsC_none rfl _)  ⟨rfl, rfl⟩
  | exact gz_return hI rfl Try.func64 (resultsC_none rfl _)  ⟨rfl, rfl⟩
theorem add_free {w : World} {c : Nat} {v : Int} (h : CellB w c v) (y : Int) : CallZ Try.prog main DT 102 #[.pointer (some ⟨c, 0, none⟩), .pointer none, .int .i64 y] w n fun x W m => x = .int .i64 (IntKind.i64.wrap (v + y)) ∧ W = w.setCell ⟨c, 0, none⟩ (.int .i64 (IntKind.i64.wrap (v + y))) ∧ m = n := by
  have hI := di_T
  refine callZ_of Try.func102 rfl fun c' cs => ?_
  simp only [Try.ntmps102, List.size_toArray, List.length_cons, List.length_nil, Nat.reduceAdd, Nat.reduceSub, Array.replicate_succ, Array.replicate_zero, List.push_toArray, List.append_toArray, List.nil_append, List.cons_append]
  (repeat (first | (first | refine gz_seq hI ?_ | refine gz_block hI ?_ | refine gz_region_end hI ?_ | refine gz_skip hI ?_ | refine gz_inBlock hI ?_ | refine gz_label hI ?_ | refine gz_scope hI ?_ | refine gz_inScope hI ?_ | refine gz_exit hI rfl ?_) | (refine gz_region hI ?_; simp only [List.size_toArray, List.length_cons, List.length_nil, Nat.reduceAdd, Nat.zero_add, List.range, List.range.loop]) | (refine gz_rd hI rfl (by rfl) (by rfl) (by decide) (fun dd e he => by simp [go_sem, *] at he <;> (subst he; exact ⟨_, _, _, rfl, by assumption⟩)) (fun dd K hK => ?_); go_simp; refine hK _ _ rfl ?_; clear hK K; (try walk_nrm)) | (refine gz_unwanted hI rfl (by rfl) ?_; try walk_nrm) | (first | refine gz_cond_t hI rfl ?_ | refine gz_cond_f hI rfl ?_)))
  refine gz_callf hI rfl (by rfl) (by decide) rfl rfl Try.func126 (by rfl) rfl (none_made hI h) (by simp [Act.eval]) ?_
  rintro _ _ _ ⟨rfl, rfl, rfl⟩
  walk_nrm
  (repeat (first | (first | refine gz_seq hI ?_ | refine gz_block hI ?_ | refine gz_region_end hI ?_ | refine gz_skip hI ?_ | refine gz_inBlock hI ?_ | refine gz_label hI ?_ | refine gz_scope hI ?_ | refine gz_inScope hI ?_ | refine gz_exit hI rfl ?_) | (refine gz_region hI ?_; simp only [List.size_toArray, List.length_cons, List.length_nil, Nat.reduceAdd, Nat.zero_add, List.range, List.range.loop]) | (refine gz_rd hI rfl (by rfl) (by rfl) (by decide) (fun dd e he => by simp [go_sem, *] at he <;> (subst he; exact ⟨_, _, _, rfl, by assumption⟩)) (fun dd K hK => ?_); go_simp; refine hK _ _ rfl ?_; clear hK K; (try walk_nrm)) | (refine gz_unwanted hI rfl (by rfl) ?_; try walk_nrm) | (first | refine gz_cond_t hI rfl ?_ | refine gz_cond_f hI rfl ?_)))
  refine gz_callf hI rfl (by rfl) (by decide) rfl rfl Try.func127 (by rfl) rfl (live_nil hI _) (by simp [Act.eval]) ?_
  rintro _ _ _ ⟨rfl, rfl, rfl⟩
  walk_nrm
  (repeat (first | (first | refine gz_seq hI ?_ | refine gz_block hI ?_ | refine gz_region_end hI ?_ | refine gz_skip hI ?_ | refine gz_inBlock hI ?_ | refine gz_label hI ?_ | refine gz_scope hI ?_ | refine gz_inScope hI ?_ | refine gz_exit hI rfl ?_) | (refine gz_region hI ?_; simp only [List.size_toArray, List.length_cons, List.length_nil, Nat.reduceAdd, Nat.zero_add, List.range, List.range.loop]) | (refine gz_rd hI rfl (by rfl) (by rfl) (by decide) (fun dd e he => by simp [go_sem, *] at he <;> (subst he; exact ⟨_, _, _, rfl, by assumption⟩)) (fun dd K hK => ?_); go_simp; refine hK _ _ rfl ?_; clear hK K; (try walk_nrm)) | (refine gz_unwanted hI rfl (by rfl) ?_; try walk_nrm) | (first | refine gz_cond_t hI rfl ?_ | refine gz_cond_f hI rfl ?_)))
  refine gz_callf hI rfl (by rfl) (by decide) rfl rfl Try.func182 (by rfl) rfl (aadd y (cell?_of h rfl) (frozen?_of h)) (by simp [Act.eval]) ?_
  rintro _ _ _ ⟨rfl, rfl, rfl⟩
  generalize IntKind.i64.wrap (v + y) = z
  walk_nrm
  (repeat (first | (first | refine gz_seq hI ?_ | refine gz_block hI ?_ | refine gz_region_end hI ?_ | refine gz_skip hI ?_ | refine gz_inBlock hI ?_ | refine gz_label hI ?_ | refine gz_scope hI ?_ | refine gz_inScope hI ?_ | refine gz_exit hI rfl ?_) | (refine gz_region hI ?_; simp only [List.size_toArray, List.length_cons, List.length_nil, Nat.reduceAdd, Nat.zero_add, List.range, List.range.loop]) | (refine gz_rd hI rfl (by rfl) (by rfl) (by decide) (fun dd e he => by simp [go_sem, *] at he <;> (subst he; exact ⟨_, _, _, rfl, by assumption⟩)) (fun dd K hK => ?_); go_simp; refine hK _ _ rfl ?_; clear hK K; (try walk_nrm)) | (refine gz_unwanted hI rfl (by rfl) ?_; try walk_nrm) | (first | refine gz_cond_t hI rfl ?_ | refine gz_cond_f hI rfl ?_)))
  refine gz_callf hI rfl (by rfl) (by decide) rfl rfl Try.func156 (by rfl) rfl (wakes_none (cellB_set h z)) (by simp [Act.eval]) ?_
  rintro _ _ _ ⟨rfl, rfl⟩
  walk_nrm
  (repeat (first | (first | refine gz_seq hI ?_ | refine gz_block hI ?_ | refine gz_region_end hI ?_ | refine gz_skip hI ?_ | refine gz_inBlock hI ?_ | refine gz_label hI ?_ | refine gz_scope hI ?_ | refine gz_inScope hI ?_ | refine gz_exit hI rfl ?_) | (refine gz_region hI ?_; simp only [List.size_toArray, List.length_cons, List.length_nil, Nat.reduceAdd, Nat.zero_add, List.range, List.range.loop]) | (refine gz_rd hI rfl (by rfl) (by rfl) (by decide) (fun dd e he => by simp [go_sem, *] at he <;> (subst he; exact ⟨_, _, _, rfl, by assumption⟩)) (fun dd K hK => ?_); go_simp; refine hK _ _ rfl ?_; clear hK K; (try walk_nrm)) | (refine gz_unwanted hI rfl (by rfl) ?_; try walk_nrm) | (first | refine gz_cond_t hI rfl ?_ | refine gz_cond_f hI rfl ?_)))
  exact gz_return hI rfl Try.func102 (resultsC_tmp rfl _)  ⟨rfl, rfl, rfl⟩
theorem cas_hit_free {w : World} {c : Nat} {v : Int} (h : CellB w c v) (y : Int) : CallZ Try.prog main DT 103 #[.pointer (some ⟨c, 0, none⟩), .pointer none, .int .i64 v, .int .i64 y] w n fun x W m => x = .bool true ∧ W = w.setCell ⟨c, 0, none⟩ (.int .i64 y) ∧ m = n := by
  have hI := di_T
  refine callZ_of Try.func103 rfl fun c' cs => ?_
  simp only [Try.ntmps103, List.size_toArray, List.length_cons, List.length_nil, Nat.reduceAdd, Nat.reduceSub, Array.replicate_succ, Array.replicate_zero, List.push_toArray, List.append_toArray, List.nil_append, List.cons_append]
  (repeat (first | (first | refine gz_seq hI ?_ | refine gz_block hI ?_ | refine gz_region_end hI ?_ | refine gz_skip hI ?_ | refine gz_inBlock hI ?_ | refine gz_label hI ?_ | refine gz_scope hI ?_ | refine gz_inScope hI ?_ | refine gz_exit hI rfl ?_) | (refine gz_region hI ?_; simp only [List.size_toArray, List.length_cons, List.length_nil, Nat.reduceAdd, Nat.zero_add, List.range, List.range.loop]) | (refine gz_rd hI rfl (by rfl) (by rfl) (by decide) (fun dd e he => by simp [go_sem, *] at he <;> (subst he; exact ⟨_, _, _, rfl, by assumption⟩)) (fun dd K hK => ?_); go_simp; refine hK _ _ rfl ?_; clear hK K; (try walk_nrm)) | (refine gz_unwanted hI rfl (by rfl) ?_; try walk_nrm) | (first | refine gz_cond_t hI rfl ?_ | refine gz_cond_f hI rfl ?_)))
  refine gz_callf hI rfl (by rfl) (by decide) rfl rfl Try.func126 (by rfl) rfl (none_made hI h) (by simp [Act.eval]) ?_
  rintro _ _ _ ⟨rfl, rfl, rfl⟩
  walk_nrm
  (repeat (first | (first | refine gz_seq hI ?_ | refine gz_block hI ?_ | refine gz_region_end hI ?_ | refine gz_skip hI ?_ | refine gz_inBlock hI ?_ | refine gz_label hI ?_ | refine gz_scope hI ?_ | refine gz_inScope hI ?_ | refine gz_exit hI rfl ?_) | (refine gz_region hI ?_; simp only [List.size_toArray, List.length_cons, List.length_nil, Nat.reduceAdd, Nat.zero_add, List.range, List.range.loop]) | (refine gz_rd hI rfl (by rfl) (by rfl) (by decide) (fun dd e he => by simp [go_sem, *] at he <;> (subst he; exact ⟨_, _, _, rfl, by assumption⟩)) (fun dd K hK => ?_); go_simp; refine hK _ _ rfl ?_; clear hK K; (try walk_nrm)) | (refine gz_unwanted hI rfl (by rfl) ?_; try walk_nrm) | (first | refine gz_cond_t hI rfl ?_ | refine gz_cond_f hI rfl ?_)))
  refine gz_callf hI rfl (by rfl) (by decide) rfl rfl Try.func127 (by rfl) rfl (live_nil hI _) (by simp [Act.eval]) ?_
  rintro _ _ _ ⟨rfl, rfl, rfl⟩
  walk_nrm
  (repeat (first | (first | refine gz_seq hI ?_ | refine gz_block hI ?_ | refine gz_region_end hI ?_ | refine gz_skip hI ?_ | refine gz_inBlock hI ?_ | refine gz_label hI ?_ | refine gz_scope hI ?_ | refine gz_inScope hI ?_ | refine gz_exit hI rfl ?_) | (refine gz_region hI ?_; simp only [List.size_toArray, List.length_cons, List.length_nil, Nat.reduceAdd, Nat.zero_add, List.range, List.range.loop]) | (refine gz_rd hI rfl (by rfl) (by rfl) (by decide) (fun dd e he => by simp [go_sem, *] at he <;> (subst he; exact ⟨_, _, _, rfl, by assumption⟩)) (fun dd K hK => ?_); go_simp; refine hK _ _ rfl ?_; clear hK K; (try walk_nrm)) | (refine gz_unwanted hI rfl (by rfl) ?_; try walk_nrm) | (first | refine gz_cond_t hI rfl ?_ | refine gz_cond_f hI rfl ?_)))
  refine gz_callf hI rfl (by rfl) (by decide) rfl rfl Try.func183 (by rfl) rfl (acas_hit y (cell?_of h rfl) (frozen?_of h)) (by simp [Act.eval]) ?_
  rintro _ _ _ ⟨rfl, rfl, rfl⟩
  walk_nrm
  (repeat (first | (first | refine gz_seq hI ?_ | refine gz_block hI ?_ | refine gz_region_end hI ?_ | refine gz_skip hI ?_ | refine gz_inBlock hI ?_ | refine gz_label hI ?_ | refine gz_scope hI ?_ | refine gz_inScope hI ?_ | refine gz_exit hI rfl ?_) | (refine gz_region hI ?_; simp only [List.size_toArray, List.length_cons, List.length_nil, Nat.reduceAdd, Nat.zero_add, List.range, List.range.loop]) | (refine gz_rd hI rfl (by rfl) (by rfl) (by decide) (fun dd e he => by simp [go_sem, *] at he <;> (subst he; exact ⟨_, _, _, rfl, by assumption⟩)) (fun dd K hK => ?_); go_simp; refine hK _ _ rfl ?_; clear hK K; (try walk_nrm)) | (refine gz_unwanted hI rfl (by rfl) ?_; try walk_nrm) | (first | refine gz_cond_t hI rfl ?_ | refine gz_cond_f hI rfl ?_)))
  refine gz_callf hI rfl (by rfl) (by decide) rfl rfl Try.func156 (by rfl) rfl (wakes_none (cellB_set h y)) (by simp [Act.eval]) ?_
  rintro _ _ _ ⟨rfl, rfl⟩
  walk_nrm
  (repeat (first | (first | refine gz_seq hI ?_ | refine gz_block hI ?_ | refine gz_region_end hI ?_ | refine gz_skip hI ?_ | refine gz_inBlock hI ?_ | refine gz_label hI ?_ | refine gz_scope hI ?_ | refine gz_inScope hI ?_ | refine gz_exit hI rfl ?_) | (refine gz_region hI ?_; simp only [List.size_toArray, List.length_cons, List.length_nil, Nat.reduceAdd, Nat.zero_add, List.range, List.range.loop]) | (refine gz_rd hI rfl (by rfl) (by rfl) (by decide) (fun dd e he => by simp [go_sem, *] at he <;> (subst he; exact ⟨_, _, _, rfl, by assumption⟩)) (fun dd K hK => ?_); go_simp; refine hK _ _ rfl ?_; clear hK K; (try walk_nrm)) | (refine gz_unwanted hI rfl (by rfl) ?_; try walk_nrm) | (first | refine gz_cond_t hI rfl ?_ | refine gz_cond_f hI rfl ?_)))
  exact gz_return hI rfl Try.func103 (resultsC_tmp rfl _)  ⟨rfl, rfl, rfl⟩
theorem cas_miss_free {w : World} {c : Nat} {v : Int} (h : CellB w c v) (o y : Int) (hne : ¬ v = o) : CallZ Try.prog main DT 103 #[.pointer (some ⟨c, 0, none⟩), .pointer none, .int .i64 o, .int .i64 y] w n fun x W m => x = .bool false ∧ W = w ∧ m = n := by
  have hI := di_T
  refine callZ_of Try.func103 rfl fun c' cs => ?_
  simp only [Try.ntmps103, List.size_toArray, List.length_cons, List.length_nil, Nat.reduceAdd, Nat.reduceSub, Array.replicate_succ, Array.replicate_zero, List.push_toArray, List.append_toArray, List.nil_append, List.cons_append]
  (repeat (first | (first | refine gz_seq hI ?_ | refine gz_block hI ?_ | refine gz_region_end hI ?_ | refine gz_skip hI ?_ | refine gz_inBlock hI ?_ | refine gz_label hI ?_ | refine gz_scope hI ?_ | refine gz_inScope hI ?_ | refine gz_exit hI rfl ?_) | (refine gz_region hI ?_; simp only [List.size_toArray, List.length_cons, List.length_nil, Nat.reduceAdd, Nat.zero_add, List.range, List.range.loop]) | (refine gz_rd hI rfl (by rfl) (by rfl) (by decide) (fun dd e he => by simp [go_sem, *] at he <;> (subst he; exact ⟨_, _, _, rfl, by assumption⟩)) (fun dd K hK => ?_); go_simp; refine hK _ _ rfl ?_; clear hK K; (try walk_nrm)) | (refine gz_unwanted hI rfl (by rfl) ?_; try walk_nrm) | (first | refine gz_cond_t hI rfl ?_ | refine gz_cond_f hI rfl ?_)))
  refine gz_callf hI rfl (by rfl) (by decide) rfl rfl Try.func126 (by rfl) rfl (none_made hI h) (by simp [Act.eval]) ?_
  rintro _ _ _ ⟨rfl, rfl, rfl⟩
  walk_nrm
  (repeat (first | (first | refine gz_seq hI ?_ | refine gz_block hI ?_ | refine gz_region_end hI ?_ | refine gz_skip hI ?_ | refine gz_inBlock hI ?_ | refine gz_label hI ?_ | refine gz_scope hI ?_ | refine gz_inScope hI ?_ | refine gz_exit hI rfl ?_) | (refine gz_region hI ?_; simp only [List.size_toArray, List.length_cons, List.length_nil, Nat.reduceAdd, Nat.zero_add, List.range, List.range.loop]) | (refine gz_rd hI rfl (by rfl) (by rfl) (by decide) (fun dd e he => by simp [go_sem, *] at he <;> (subst he; exact ⟨_, _, _, rfl, by assumption⟩)) (fun dd K hK => ?_); go_simp; refine hK _ _ rfl ?_; clear hK K; (try walk_nrm)) | (refine gz_unwanted hI rfl (by rfl) ?_; try walk_nrm) | (first | refine gz_cond_t hI rfl ?_ | refine gz_cond_f hI rfl ?_)))
  refine gz_callf hI rfl (by rfl) (by decide) rfl rfl Try.func127 (by rfl) rfl (live_nil hI _) (by simp [Act.eval]) ?_
  rintro _ _ _ ⟨rfl, rfl, rfl⟩
  walk_nrm
  (repeat (first | (first | refine gz_seq hI ?_ | refine gz_block hI ?_ | refine gz_region_end hI ?_ | refine gz_skip hI ?_ | refine gz_inBlock hI ?_ | refine gz_label hI ?_ | refine gz_scope hI ?_ | refine gz_inScope hI ?_ | refine gz_exit hI rfl ?_) | (refine gz_region hI ?_; simp only [List.size_toArray, List.length_cons, List.length_nil, Nat.reduceAdd, Nat.zero_add, List.range, List.range.loop]) | (refine gz_rd hI rfl (by rfl) (by rfl) (by decide) (fun dd e he => by simp [go_sem, *] at he <;> (subst he; exact ⟨_, _, _, rfl, by assumption⟩)) (fun dd K hK => ?_); go_simp; refine hK _ _ rfl ?_; clear hK K; (try walk_nrm)) | (refine gz_unwanted hI rfl (by rfl) ?_; try walk_nrm) | (first | refine gz_cond_t hI rfl ?_ | refine gz_cond_f hI rfl ?_)))
  refine gz_callf hI rfl (by rfl) (by decide) rfl rfl Try.func183 (by rfl) rfl (acas_miss o y (cell?_of h rfl) (frozen?_of h) hne) (by simp [Act.eval]) ?_
  rintro _ _ _ ⟨rfl, rfl, rfl⟩
  walk_nrm
  (repeat (first | (first | refine gz_seq hI ?_ | refine gz_block hI ?_ | refine gz_region_end hI ?_ | refine gz_skip hI ?_ | refine gz_inBlock hI ?_ | refine gz_label hI ?_ | refine gz_scope hI ?_ | refine gz_inScope hI ?_ | refine gz_exit hI rfl ?_) | (refine gz_region hI ?_; simp only [List.size_toArray, List.length_cons, List.length_nil, Nat.reduceAdd, Nat.zero_add, List.range, List.range.loop]) | (refine gz_rd hI rfl (by rfl) (by rfl) (by decide) (fun dd e he => by simp [go_sem, *] at he <;> (subst he; exact ⟨_, _, _, rfl, by assumption⟩)) (fun dd K hK => ?_); go_simp; refine hK _ _ rfl ?_; clear hK K; (try walk_nrm)) | (refine gz_unwanted hI rfl (by rfl) ?_; try walk_nrm) | (first | refine gz_cond_t hI rfl ?_ | refine gz_cond_f hI rfl ?_)))
  exact gz_return hI rfl Try.func103 (resultsC_tmp rfl _)  ⟨rfl, rfl, rfl⟩
end
end Go.Proofs.Ytekmbijlaonnmaa.Z
