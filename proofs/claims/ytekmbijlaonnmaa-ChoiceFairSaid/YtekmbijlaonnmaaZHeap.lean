/-
  What is known of the memory, block by block; a made cell.
-/
import Derived.Test.YtekmbijlaonnmaaCellFree
import Derived.Test.YtekmbijlaonnmaaZDraw
import Derived.Maps.AppendAt
import Derived.Conc.AppendWalk
import Derived.Laws.BitsLemmas
set_option linter.unusedSimpArgs false
set_option linter.unusedVariables false
namespace Go.Proofs.Ytekmbijlaonnmaa.Z
open Go.Conc
def cellO (v : Int) : Obj := .cells #[.int .i64 v, .bool true, .int .i32 0, .int .u32 0, .chan none] 224 (0, 0)
theorem heap_alloc_new' (w : World) (o : Obj) : (w.alloc o).heap[w.heap.size]? = some o := by unfold World.alloc; simp
theorem heap_alloc_old' {w : World} {o : Obj} {b : Nat} {x : Obj} (h : w.heap[b]? = some x) : (w.alloc o).heap[b]? = some x := by
  have := (Array.getElem?_eq_some_iff.1 h).1
  unfold World.alloc; simp [Array.getElem?_push, h, Nat.ne_of_lt this]
theorem heap_alloc_size' (w : World) (o : Obj) : (w.alloc o).heap.size = w.heap.size + 1 := by unfold World.alloc; simp
theorem alloc_set (w : World) (o : Obj) (off : Nat) (v : Value) : (w.alloc o).setCell ⟨w.heap.size, off, none⟩ v = w.alloc (match o with | .cells c t f => .cells (c.setIfInBounds off v) t f | o => o) := by
  refine world_ext ?_ rfl rfl rfl rfl
  apply Array.ext_getElem?
  intro i
  unfold World.alloc World.setCell
  simp only [Array.getElem?_modify, Array.getElem?_push]
  by_cases e : w.heap.size = i
  · subst e
    cases o <;> simp
  · have e' : ¬ i = w.heap.size := fun x => e x.symm
    simp [e, e']
theorem os2 {α β : Type} {a a' : α} {b b' : β} (h : a = a') (k : b = b') : (a, b) = (a', b') := by rw [h, k]
/-- All blocks that were there are as they were, but those of S. -/
structure Keeps (w W : World) (S : Nat → Prop) : Prop where
  size : w.heap.size ≤ W.heap.size
  os : (W.os, W.output) = (w.os, w.output)
  old : ∀ b, b < w.heap.size → ¬ S b → W.heap[b]? = w.heap[b]?
theorem Keeps.refl (w : World) (S : Nat → Prop) : Keeps w w S := ⟨Nat.le_refl _, rfl, fun _ _ _ => rfl⟩
theorem Keeps.trans {a b c : World} {S : Nat → Prop} (h : Keeps a b S) (k : Keeps b c S) : Keeps a c S := ⟨Nat.le_trans h.size k.size, k.os.trans h.os, fun x hx hs => (k.old x (Nat.lt_of_lt_of_le hx h.size) hs).trans (h.old x hx hs)⟩
theorem Keeps.more {a b : World} {S S' : Nat → Prop} (h : Keeps a b S) (hs : ∀ x, x < a.heap.size → S x → S' x) : Keeps a b S' := ⟨h.size, h.os, fun x hx k => h.old x hx fun y => k (hs x hx y)⟩
theorem Keeps.heap {w W : World} {S : Nat → Prop} (h : Keeps w W S) {b : Nat} {o : Obj} (e : w.heap[b]? = some o) (hs : ¬ S b) : W.heap[b]? = some o := by
  rw [h.old b (Array.getElem?_eq_some_iff.1 e).1 hs]; exact e
theorem Keeps.alloc (w : World) (o : Obj) (S : Nat → Prop) : Keeps w (w.alloc o) S := ⟨by rw [heap_alloc_size']; exact Nat.le_succ _, rfl, fun b hb _ => by
  rw [Array.getElem?_eq_getElem hb]; exact heap_alloc_old' (Array.getElem?_eq_getElem hb)⟩
theorem Keeps.set (w : World) {b off : Nat} (v : Value) {S : Nat → Prop} (hb : S b) : Keeps w (w.setCell ⟨b, off, none⟩ v) S := ⟨by rw [heap_set_size]; exact Nat.le_refl _, rfl, fun c _ hs => heap_set_ne (fun e => hs (by subst e; exact hb)) v⟩
theorem Keeps.at {w W : World} {S : Nat → Prop} (h : Keeps w W S) (d : Nat) : Keeps w (W.at d) S := ⟨h.1, h.2, h.3⟩
theorem Keeps.at1 {w W : World} {S : Nat → Prop} {d : Nat} (h : Keeps w W S) : Keeps (w.at d) W S := ⟨h.1, h.2, h.3⟩
theorem lt_of_heap {w : World} {b : Nat} {o : Obj} (e : w.heap[b]? = some o) : b < w.heap.size := (Array.getElem?_eq_some_iff.1 e).1
set_option maxRecDepth 20000 in
theorem cell_new (main : Bool) (n : Nat) (w : World) (v : Int) : CallZ Try.prog main DT 18 #[.int .i64 v] w n fun x W m => x = .pointer (some ⟨w.heap.size, 0, none⟩) ∧ W = w.alloc (cellO v) ∧ m = n := by
  have hI := di_T
  refine callZ_of Try.func18 rfl fun c' cs => ?_
  simp only [Try.ntmps18, List.size_toArray, List.length_cons, List.length_nil, Nat.reduceAdd, Nat.reduceSub, Array.replicate_succ, Array.replicate_zero, List.push_toArray, List.append_toArray, List.nil_append, List.cons_append]
  (repeat (first | (first | refine gz_seq hI ?_ | refine gz_block hI ?_ | refine gz_region_end hI ?_ | refine gz_skip hI ?_ | refine gz_inBlock hI ?_ | refine gz_label hI ?_ | refine gz_scope hI ?_ | refine gz_inScope hI ?_ | refine gz_exit hI rfl ?_) | (refine gz_region hI ?_; simp only [List.size_toArray, List.length_cons, List.length_nil, Nat.reduceAdd, Nat.zero_add, List.range, List.range.loop]) | (refine gl_op rfl (by rfl) (by rfl) (by decide) (fun dd e he => by simp [go_sem, *] at he <;> first | (subst he; exact ⟨nofun, nofun⟩) | (rcases he with he | he <;> subst he <;> exact ⟨nofun, nofun⟩) | (rcases he with he | he | he <;> subst he <;> exact ⟨nofun, nofun⟩) | (rcases he with he | he | he | he <;> subst he <;> exact ⟨nofun, nofun⟩)) (fun dd K hK => ?_); go_simp; refine hK _ _ ?_; clear hK K; (try walk_nrm); (try simp only [at_at', alloc_at', setCell_at']); refine Gz.at ?_ _) | (refine gz_unwanted hI rfl (by rfl) ?_; try walk_nrm) | (first | refine gz_cond_t hI rfl ?_ | refine gz_cond_f hI rfl ?_)))
  rw [show (Obj.cells #[Value.int IntKind.i64 0, Value.bool true, Value.int IntKind.i32 0, Value.int IntKind.u32 0, Value.chan none] 224 (0, 0)) = cellO 0 from rfl]
  have h1 := heap_alloc_new' w (cellO 0)
  have h3 : (w.alloc (cellO 0)).setCell ⟨w.heap.size, 0, none⟩ (.int .i64 v) = w.alloc (cellO v) := alloc_set w _ 0 _
  generalize w.heap.size = c at *
  generalize w.alloc (cellO 0) = w1 at *
  refine gz_callf hI rfl (by rfl) (by decide) rfl rfl Try.func108 (by rfl) rfl (astore v (cell?_of h1 rfl) (frozen?_of h1)) (by simp [Act.eval]) ?_
  rw [h3]
  rintro _ _ _ ⟨rfl, rfl⟩
  walk_nrm
  (repeat (first | (first | refine gz_seq hI ?_ | refine gz_block hI ?_ | refine gz_region_end hI ?_ | refine gz_skip hI ?_ | refine gz_inBlock hI ?_ | refine gz_label hI ?_ | refine gz_scope hI ?_ | refine gz_inScope hI ?_ | refine gz_exit hI rfl ?_) | (refine gz_region hI ?_; simp only [List.size_toArray, List.length_cons, List.length_nil, Nat.reduceAdd, Nat.zero_add, List.range, List.range.loop]) | (refine gz_rd hI rfl (by rfl) (by rfl) (by decide) (fun dd e he => by simp [go_sem, *] at he <;> (subst he; exact ⟨_, _, _, rfl, by assumption⟩)) (fun dd K hK => ?_); go_simp; refine hK _ _ rfl ?_; clear hK K; (try walk_nrm)) | (refine gz_unwanted hI rfl (by rfl) ?_; try walk_nrm) | (first | refine gz_cond_t hI rfl ?_ | refine gz_cond_f hI rfl ?_)))
  exact gz_return hI rfl Try.func18 (resultsC_tmp rfl _)  ⟨rfl, rfl, rfl⟩
def infoOk (P : Program) (e : TypeId) (size bytes : Nat) : Bool := match P.info? e with
  | some i => (match i.zero with
    | some z => i.size == size && i.bytes == bytes && z.cells.size == size
    | none => false)
  | none => false
theorem info_of {P : Program} {e : TypeId} {size bytes : Nat} (h : infoOk P e size bytes = true) : ∃ i z, P.info? e = some i ∧ i.zero = some z ∧ i.size = size ∧ i.bytes = bytes ∧ z.cells.size = size := by
  unfold infoOk at h
  split at h
  · rename_i i hi
    split at h
    · rename_i z hz
      simp only [Bool.and_eq_true, beq_iff_eq] at h
      exact ⟨i, z, hi, hz, h.1.1, h.1.2, h.2⟩
    · cases h
  · cases h
theorem owns_at {w : World} {d base : Nat} {e : TypeId} {size : Nat} {v : Value} {n : Nat} {xs : List Value} (h : w.ownsRow base e size v n xs) : (w.at d).ownsRow base e size v n xs := h
section
variable {P : Program} {main : Bool} {fn : FuncId} {ops : Array Oper} {a : Act} {w : World} {n i : Nat} {o : Oper}
theorem append_hears {base : Nat} {t ty e : TypeId} {inf : TypeInfo} {z : Value} {size bytes : Nat} (ht : P.underlying t = some (.slice e)) (hi : P.info? e = some inf) (hz : inf.zero = some z)
    (hsize : inf.size = size) (hby : inf.bytes = bytes) {v : Value} {k : Nat} {xs : List Value} (hown : w.ownsRow base e size v k xs)
    {ad : Addr} {m c : Nat} {news : List Value} (hl : news.length = m * size) (hnews : ∀ j u, news[j]? = some u → w.cell? (ad.add j) = some u) (h1 : ∀ u ∈ news, u.oneCell' = true)
    (h63 : k + m ≤ maxLen) (hbytes : (k + m) * bytes ≤ 140737488355328) :
    ∀ ev ∈ (Builtin.append_ #[t, t] ty #[v, .slice (some ad) m c]).events P w #[], ev.loc ≠ .mark .disable ∧ ev.loc ≠ .mark .enable := by
  intro ev hev
  rcases events_append_own w base t ty e inf z size bytes ht hi hz hsize hby v k xs hown ad m c news hl hnews h1 h63 hbytes ev hev with ⟨x, h, _⟩ | ⟨x, h, _⟩ | ⟨x, rfl, hn⟩
  · rw [h]; exact ⟨nofun, nofun⟩
  · rw [h]; exact ⟨nofun, nofun⟩
  · exact ⟨fun e => hn.ne_disable (by cases e; rfl), fun e => hn.ne_enable (by cases e; rfl)⟩
/-- What an append onto a row of one's own does. -/
theorem append_step {base : Nat} {t e : TypeId} {inf : TypeInfo} {z : Value} {size bytes : Nat} {s x : Operand} (hop : o.op = .call { callee := .builtin .append, args := #[s, x], argTypes := #[t, t] })
    (ht : P.underlying t = some (.slice e)) (hi : P.info? e = some inf) (hz : inf.zero = some z)
    (hsize : inf.size = size) (hby : inf.bytes = bytes) (hzs : z.cells.size = size) (hsz : 0 < size) {v : Value} {k : Nat} {xs : List Value} (hs : a.eval s = v) (hown : w.ownsRow base e size v k xs)
    {ad : Addr} {m c : Nat} {news : List Value} (hx : a.eval x = .slice (some ad) m c) (hl : news.length = m * size) (hnews : ∀ j u, news[j]? = some u → w.cell? (ad.add j) = some u) (h1 : ∀ u ∈ news, u.oneCell' = true)
    (h63 : k + m ≤ maxLen) (hbytes : (k + m) * bytes ≤ 140737488355328) (hbase : base ≤ w.heap.size) (d : Nat) :
    (∀ K : Act → World → Prop, (∀ v' w', w'.ownsRow base e size v' (k + m) (xs ++ news) → w.grownBy w' v.ownBlock → (v'.ownBlock = v.ownBlock ∨ v'.ownBlock = some w.heap.size) → K (a.put o.dst v') w') → uponK o a K ((execOp a.eval o).run P (w.at d))) ∧
    ∀ ev, ev ∈ (execOp a.eval o).events P (w.at d) #[] → ev.loc ≠ .mark .disable ∧ ev.loc ≠ .mark .enable := by
  obtain ⟨v', w', hr, h2, h3, h4, h5⟩ := run_append_own_at (P := P) (w.at d) base t o.type e inf z size bytes ht hi hz hsize hby hzs hsz v k xs hown ad m c news hl hnews h1 h63 hbytes hbase
  refine ⟨fun K hK => uponK_append s x t hop hs hx hr (hK v' w' h2 ⟨h3.os, h3.tape, h3.output, h3.size, h3.block⟩ h5), fun ev hev => ?_⟩
  rw [events_append_op s x t hop hs hx] at hev
  exact append_hears ht hi hz hsize hby (w := w.at d) hown hl hnews h1 h63 hbytes ev hev
/-- One operation inside a region that draws, beside leavers. -/
theorem opL_op {K : Act → World → Nat → Prop} (ho : ops[i]? = some o) (hw : Region.wanted o (yielded ops a.tmps) = true)
    (he : ∀ d e, e ∈ (execOp a.eval o).events P (w.at d) #[] → e.loc ≠ .mark .disable ∧ e.loc ≠ .mark .enable)
    (h : ∀ d, ∀ K' : Act → World → Prop, (∀ a' w', K a' w' n → K' a' w') → uponK o a K' ((execOp a.eval o).run P (w.at d))) : OpZ P main DT fn ops i K a w n :=
  opZ_op ho hw fun d K' hK => h d K' fun a' w' x => hK a' w' ⟨trivial, by rw [deafBehind_still fun e hm => he d e (mem_listed hm)]; exact x⟩
/-- AN APPEND, beside leavers, in a region that draws its order .. -/
theorem opL_append {K : Act → World → Nat → Prop} (ho : ops[i]? = some o) (hw : Region.wanted o (yielded ops a.tmps) = true) {s x : Operand} {t e : TypeId} (hop : o.op = .call { callee := .builtin .append, args := #[s, x], argTypes := #[t, t] })
    (ht : P.underlying t = some (.slice e)) {size bytes : Nat} (hinf : infoOk P e size bytes = true) (hsz : 0 < size) {v : Value} {k : Nat} {xs : List Value} (hs : a.eval s = v) {base : Nat} (hown : w.ownsRow base e size v k xs)
    {ad : Addr} {m c : Nat} {news : List Value} (hx : a.eval x = .slice (some ad) m c) (hl : news.length = m * size) (hnews : ∀ j u, news[j]? = some u → w.cell? (ad.add j) = some u) (h1 : ∀ u ∈ news, u.oneCell' = true)
    (h63 : k + m ≤ maxLen) (hbytes : (k + m) * bytes ≤ 140737488355328) (hbase : base ≤ w.heap.size)
    (h : ∀ v' w', w'.ownsRow base e size v' (k + m) (xs ++ news) → w.grownBy w' v.ownBlock → (v'.ownBlock = v.ownBlock ∨ v'.ownBlock = some w.heap.size) → K (a.put o.dst v') w' n) : OpZ P main DT fn ops i K a w n := by
  obtain ⟨inf, z, hi1, hi2, hi3, hi4, hi5⟩ := info_of hinf
  have happ := append_step hop ht hi1 hi2 hi3 hi4 hi5 hsz hs hown hx hl hnews h1 h63 hbytes hbase
  exact opL_op ho hw (fun d => (happ d).2) fun d K' hK => (happ d).1 K' fun v' w' h2 h3 h4 => hK _ _ (h v' w' h2 h3 h4)
/-- .. or in one that does not. -/
theorem gl_append {b : Frame} {kk : List Item} {cs : List Frame} {Z : Goroutine → World → Nat → Prop} {rest : List Nat} (ho : ops[i]? = some o) (hw : Region.wanted o (yielded ops a.tmps) = true) (hk : b.kind ≠ .early) {s x : Operand} {t e : TypeId} (hop : o.op = .call { callee := .builtin .append, args := #[s, x], argTypes := #[t, t] })
    (ht : P.underlying t = some (.slice e)) {size bytes : Nat} (hinf : infoOk P e size bytes = true) (hsz : 0 < size) {v : Value} {k : Nat} {xs : List Value} (hs : a.eval s = v) {base : Nat} (hown : w.ownsRow base e size v k xs)
    {ad : Addr} {m c : Nat} {news : List Value} (hx : a.eval x = .slice (some ad) m c) (hl : news.length = m * size) (hnews : ∀ j u, news[j]? = some u → w.cell? (ad.add j) = some u) (h1 : ∀ u ∈ news, u.oneCell' = true)
    (h63 : k + m ≤ maxLen) (hbytes : (k + m) * bytes ≤ 140737488355328) (hbase : base ≤ w.heap.size)
    (h : ∀ v' w', w'.ownsRow base e size v' (k + m) (xs ++ news) → w.grownBy w' v.ownBlock → (v'.ownBlock = v.ownBlock ∨ v'.ownBlock = some w.heap.size) → Gz P main DT Z (G (b.at (a.put o.dst v') (.inRegion ops rest :: kk)) cs) w' n) :
    Gz P main DT Z (G (b.at a (.inRegion ops (i :: rest) :: kk)) cs) w n := by
  obtain ⟨inf, z, hi1, hi2, hi3, hi4, hi5⟩ := info_of hinf
  have happ := append_step hop ht hi1 hi2 hi3 hi4 hi5 hsz hs hown hx hl hnews h1 h63 hbytes hbase
  have hpl : plainOp o.op = true := by rw [hop]; rfl
  exact gl_op ho hpl hw hk (fun d => (happ d).2) fun d K' hK => (happ d).1 K' fun v' w' h2 h3 h4 => hK _ _ (h v' w' h2 h3 h4)
end
theorem grown_keeps {w W : World} {row : Option Nat} {S : Nat → Prop} (h : w.grownBy W row) (hs : ∀ k, row = some k → k < w.heap.size → S k) : Keeps w W S :=
  ⟨h.size, os2 h.os h.output, fun b hb hn => h.block b hb fun e => hn (hs b e.symm hb)⟩
theorem wraps_i64 (n : Int) (h₀ : 0 ≤ n) (h₁ : n < 2 ^ 63) : IntKind.i64.wrap n = n := by rw [IntKind.wrap_i64]; omega
theorem mask_mod {N m : Nat} (hN : N = 2 ^ m) (hm : m ≤ 20) (k : Nat) (hk : k < 9223372036854775808) : bits .and .i64 (k : Int) (IntKind.i64.wrap ((N : Int) - 1)) = ((k % N : Nat) : Int) := by
  have h0 : (2 : Nat) ^ m ≤ 2 ^ 20 := Nat.pow_le_pow_right (by decide) hm
  have h00 : 0 < (2 : Nat) ^ m := Nat.two_pow_pos m
  have h1 : IntKind.i64.wrap ((N : Int) - 1) = (2 : Int) ^ m - 1 := by
    rw [wraps_i64 _ (by subst hN; omega) (by subst hN; omega)]
    subst hN; push_cast; rfl
  rw [h1, bits_mask .i64 63 (by decide) wraps_i64 m (by omega) _ (by omega) (by omega)]
  subst hN; push_cast; rfl
theorem addr_add (b o n : Nat) : (⟨b, o, none⟩ : Addr).add n = ⟨b, o + n, none⟩ := by
  unfold Addr.add; split <;> simp_all
end Go.Proofs.Ytekmbijlaonnmaa.Z
