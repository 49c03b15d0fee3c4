/-
  ChoiceFair: the walk.
-/
import Derived.Test.YtekmbijlaonnmaaChoWorks
set_option linter.unusedSimpArgs false
set_option linter.unusedVariables false
namespace Go.Proofs.Ytekmbijlaonnmaa.Z
open Go.Conc
/-- .. or in one that does not. -/
theorem gt_append {P : Program} {a : Act} {w : World} {ops : Array Oper} {i : Nat} {o : Oper} {b : Frame} {kk : List Item} {cs : List Frame} {Z : Goroutine → World → Prop} {rest : List Nat} (ho : ops[i]? = some o) (hw : Region.wanted o (yielded ops a.tmps) = true) (hk : b.kind ≠ .early) {s x : Operand} {t e : TypeId} (hop : o.op = .call { callee := .builtin .append, args := #[s, x], argTypes := #[t, t] })
    (ht : P.underlying t = some (.slice e)) {size bytes : Nat} (hinf : infoOk P e size bytes = true) (hsz : 0 < size) {v : Value} {k : Nat} {xs : List Value} (hs : a.eval s = v) {base : Nat} (hown : w.ownsRow base e size v k xs)
    {ad : Addr} {m c : Nat} {news : List Value} (hx : a.eval x = .slice (some ad) m c) (hl : news.length = m * size) (hnews : ∀ j u, news[j]? = some u → w.cell? (ad.add j) = some u) (h1 : ∀ u ∈ news, u.oneCell' = true)
    (h63 : k + m ≤ maxLen) (hbytes : (k + m) * bytes ≤ 140737488355328) (hbase : base ≤ w.heap.size)
    (h : ∀ v' w', w'.ownsRow base e size v' (k + m) (xs ++ news) → w.grownBy w' v.ownBlock → (v'.ownBlock = v.ownBlock ∨ v'.ownBlock = some w.heap.size) → Gt P Z (G (b.at (a.put o.dst v') (.inRegion ops rest :: kk)) cs) w') :
    Gt P Z (G (b.at a (.inRegion ops (i :: rest) :: kk)) cs) w := fun n =>
  gl_append ho hw hk hop ht hinf hsz hs hown hx hl hnews h1 h63 hbytes hbase fun v' w' a b c => h v' w' a b c n
theorem madeCells_one (z : Value) {n j : Nat} (h : j < n) : (madeCells #[z] n)[j]? = some z := by
  simp [madeCells, h, Nat.mod_one]
/-- make([]T, n), T of one cell. -/
theorem gt_make {P : Program} {Z : Goroutine → World → Prop} {b : Frame} {k : List Item} {cs : List Frame} {a : Act} {w : World} {ops : Array Oper} {i : Nat} {rest : List Nat} {o : Oper} (ho : ops[i]? = some o) (hw : Region.wanted o (yielded ops a.tmps) = true) (hk : b.kind ≠ .early)
    {t e : TypeId} {l c : Operand} (hop : o.op = .makeSlice t l c) {kl kc : IntKind} {n : Nat} (hl : a.eval l = .int kl (n : Int)) (hc : a.eval c = .int kc (n : Int)) (ht : P.underlying t = some (.slice e)) {z : Value}
    (h1 : (P.info? e).bind (fun i => i.zero) = some z) (h2 : (P.info? e).map (fun i => (i.size, decide (i.bytes ≤ 8))) = some (1, true)) (h3 : z.cells = #[z]) (hn : n ≤ 1000)
    (h : ∀ cur : Array Value, cur.size = n → (∀ j, j < n → cur[j]? = some z) → Gt P Z (G (b.at (a.put o.dst (.slice (some ⟨w.heap.size, 0, none⟩) n n)) (.inRegion ops rest :: k)) cs) (w.alloc (.cells cur e (0, 0)))) :
    Gt P Z (G (b.at a (.inRegion ops (i :: rest) :: k)) cs) w := by
  refine gt_op ho (by rw [hop]; rfl) hw hk fun d K hK => ?_
  cases hi : P.info? e with
  | none => rw [hi] at h1; cases h1
  | some inf =>
    rw [hi] at h1 h2
    simp only [Option.bind_some] at h1
    simp only [Option.map_some, Option.some.injEq, Prod.mk.injEq, decide_eq_true_eq] at h2
    have hb0 : ((inf.bytes * n : Nat) : Int) ≤ 8000 := by have := Nat.mul_le_mul h2.2 hn; omega
    rw [Int.natCast_mul] at hb0
    have hr := run_make (P := P) (w.at d) t e inf z ht hi h1 kl kc (n : Int) (n : Int) (by omega) (Int.le_refl _) (by omega) (by omega)
    have e1 : ((n : Int).toNat) = n := Int.toNat_natCast n
    rw [e1, h2.1, Nat.mul_one, h3] at hr
    unfold execOp
    simp only [hop, hl, hc, Sem.run_bind, hr, Result.andThen_ok, Sem.run_pure]
    refine hK _ _ ?_
    exact (h (madeCells #[z] n) (size_madeCells _ _) (fun j hj => madeCells_one z hj)).at d
theorem at21_T (w : World) (k : Int) (hk : -9223372036854775808 ≤ k ∧ k < 9223372036854775808) (n : Nat) (hn : 0 < n) (hn2 : n < 1000) : CallT Try.prog 34 #[.int .i64 k, .int .i64 (n : Int)] w fun x W => ∃ r : Nat, r < n ∧ x = .int .i64 (r : Int) ∧ W = w := by
  have hne : ¬ n = 0 := by omega
  have hb : -(n : Int) < k.tmod (n : Int) ∧ k.tmod (n : Int) < n := ⟨by have := Int.tmod_lt_of_pos (-k) (b := (n : Int)) (by omega); rw [Int.neg_tmod] at this; omega, Int.tmod_lt_of_pos k (by omega)⟩
  have hw : IntKind.i64.wrap (k.tmod (n : Int)) = k.tmod (n : Int) := by rw [IntKind.wrap_i64]; omega
  have hw2 : IntKind.i64.wrap (k.tmod (n : Int) + (n : Int)) = k.tmod (n : Int) + n := by rw [IntKind.wrap_i64]; omega
  refine callT_of Try.func34 rfl fun c' cs => ?_
  simp only [Try.ntmps34, List.size_toArray, List.length_cons, List.length_nil, Nat.reduceAdd, Nat.reduceSub, Array.replicate_succ, Array.replicate_zero, List.push_toArray, List.append_toArray, List.nil_append, List.cons_append]
  by_cases hneg : k.tmod (n : Int) < 0
  · (repeat (first | (first | refine gt_seq ?_ | refine gt_block ?_ | refine gt_region_end ?_ | refine gt_skip ?_ | refine gt_inBlock ?_ | refine gt_label ?_ | refine gt_scope ?_ | refine gt_inScope ?_ | refine gt_exit rfl ?_) | (refine gt_region ?_; simp only [List.size_toArray, List.length_cons, List.length_nil, Nat.reduceAdd, Nat.zero_add, List.range, List.range.loop]) | (refine gt_op rfl (by rfl) (by rfl) (by decide) (fun dd K hK => ?_); go_simp; refine hK _ _ ?_; clear hK K; (try walk_nrm); (try simp only [at_at', alloc_at', setCell_at']); refine Gt.at ?_ _) | (refine gt_unwanted rfl (by rfl) ?_; try walk_nrm) | (first | refine gt_cond_t rfl ?_ | refine gt_cond_f rfl ?_)))
    obtain ⟨r, hr⟩ : ∃ r : Nat, k.tmod (n : Int) + n = r := ⟨(k.tmod (n : Int) + n).toNat, by omega⟩
    rw [hr]
    exact gt_return rfl Try.func34 (resultsC_tmp rfl _)  ⟨r, by omega, rfl, rfl⟩
  · (repeat (first | (first | refine gt_seq ?_ | refine gt_block ?_ | refine gt_region_end ?_ | refine gt_skip ?_ | refine gt_inBlock ?_ | refine gt_label ?_ | refine gt_scope ?_ | refine gt_inScope ?_ | refine gt_exit rfl ?_) | (refine gt_region ?_; simp only [List.size_toArray, List.length_cons, List.length_nil, Nat.reduceAdd, Nat.zero_add, List.range, List.range.loop]) | (refine gt_op rfl (by rfl) (by rfl) (by decide) (fun dd K hK => ?_); go_simp; refine hK _ _ ?_; clear hK K; (try walk_nrm); (try simp only [at_at', alloc_at', setCell_at']); refine Gt.at ?_ _) | (refine gt_unwanted rfl (by rfl) ?_; try walk_nrm) | (first | refine gt_cond_t rfl ?_ | refine gt_cond_f rfl ?_)))
    obtain ⟨r, hr⟩ : ∃ r : Nat, k.tmod (n : Int) = r := ⟨(k.tmod (n : Int)).toNat, by omega⟩
    rw [hr]
    exact gt_return rfl Try.func34 (resultsC_tmp rfl _)  ⟨r, by omega, rfl, rfl⟩
def itc (j k : Nat) : Int := 1000 * (j : Int) + k
def caseRows (R : Nat → Pipe) (i : Nat) : List Value := (List.range i).flatMap fun j => [.pointer (some ⟨(R j).p, 0, none⟩), .bool false, .int .i64 0]
/-- i pipes are made and filled. -/
structure Fill (w : World) (bell tick onb M K : Nat) (onf : Nat → Bool) (i : Nat) (lv : Value) (W : World) (R : Nat → Pipe) (bv : Int) : Prop where
  keeps : Keeps w W (fun _ => False)
  pipes : Pipes R i bell itc W (fun _ => 0) (fun j => if onf j then K else 0) bv
  size : ∀ j, j < i → (R j).N = 64
  tickC : CellB W tick 0
  cO : W.heap[tick + 1]? = some (choiceO bell tick)
  onA : ∃ cur, W.heap[onb]? = some (.cells cur 4 (0, 0)) ∧ ∀ j, j < M → cur[j]? = some (.bool (if j < i then onf j else false))
  own : W.ownsRow (onb + 1) 78 3 lv i (caseRows R i)
  low : ∀ j, j < i → onb < (R j).lo
  lvOut : ∀ j, j < i → ∀ b, lv.ownBlock = some b → ¬ (R j).own b
theorem Keeps.cell {w W : World} (h : Keeps w W (fun _ => False)) {a : Addr} {v : Value} (e : w.cell? a = some v) : W.cell? a = some v := by
  rw [World.cell?_of_block (h.old a.block (World.block_lt_of_cell? w a e) fun x => x)]; exact e
theorem caseRows_congr {R R' : Nat → Pipe} {i : Nat} (h : ∀ j, j < i → R' j = R j) : caseRows R' i = caseRows R i := by
  unfold caseRows
  rw [List.flatMap_def, List.flatMap_def]
  congr 1
  exact List.map_congr_left fun j hj => by rw [h j (List.mem_range.1 hj)]
/-- Pipe i is made and holds q things; it is not among the cases yet. -/
structure Mid (w : World) (bell tick onb M K : Nat) (onf : Nat → Bool) (i q : Nat) (lv : Value) (W : World) (R : Nat → Pipe) (bv : Int) : Prop where
  keeps : Keeps w W (fun _ => False)
  pipes : Pipes R (i + 1) bell itc W (fun _ => 0) (fun j => if j = i then q else if onf j then K else 0) bv
  size : ∀ j, j < i + 1 → (R j).N = 64
  tickC : CellB W tick 0
  cO : W.heap[tick + 1]? = some (choiceO bell tick)
  onA : ∃ cur, W.heap[onb]? = some (.cells cur 4 (0, 0)) ∧ ∀ j, j < M → cur[j]? = some (.bool (if j < i + 1 then onf j else false))
  own : W.ownsRow (onb + 1) 78 3 lv i (caseRows R i)
  low : ∀ j, j < i + 1 → onb < (R j).lo
  lvOut : ∀ j, j < i + 1 → ∀ b, lv.ownBlock = some b → ¬ (R j).own b
theorem Fill.mid {w : World} {bell tick onb M K : Nat} {onf : Nat → Bool} {i : Nat} {lv : Value} {W W' : World} {R : Nat → Pipe} {bv : Int} {Rn : Pipe} (F : Fill w bell tick onb M K onf i lv W R bv) (hi : i < M) (hob : onb < W.heap.size) (hto : tick + 1 < onb) (hwo : w.heap.size ≤ onb)
    (hP : PipeIs Rn W' val0) (hN : Rn.N = 64) (hb : Rn.bell = bell) (hl : Rn.lo = W.heap.size) (hh : Rn.hi = W'.heap.size) (hk : Keeps W W' (fun _ => False)) :
    ∃ R', R' i = Rn ∧ Mid w bell tick onb M K onf i 0 lv (W'.setCell ⟨onb, i, none⟩ (.bool (onf i))) R' bv := by
  have P1 := F.pipes.add hk hP hb hl hh
  have hks := Keeps.set W' (off := i) (.bool (onf i)) (S := fun b => b = onb) (b := onb) rfl
  obtain ⟨cur, hc, hx⟩ := F.onA
  have hc' := hk.heap hc fun h => h
  have hbo : bell ≠ onb := fun e => by
    have h1 : W.heap[bell]? = some (cellO bv) := F.pipes.bellC
    rw [e, hc] at h1; simp [cellO] at h1
  have hlow : ∀ j, j < i + 1 → onb < (if j = i then Rn else R j).lo := fun j hj => by
    by_cases e : j = i
    · subst e; simp only [if_true]; rw [hl]; exact hob
    · simp only [if_neg e]; exact F.low j (by omega)
  refine ⟨fun j => if j = i then Rn else R j, if_pos rfl, ⟨(F.keeps.trans hk).above hks fun b hb => ?_, ?_, fun j hj => ?_, hks.heap (hk.heap F.tickC fun h => h) (by omega), hks.heap (hk.heap F.cO fun h => h) (by omega), ⟨_, heap_set_self hc' _, fun j hj => ?_⟩, ?_, hlow, fun j hj b hb ho => ?_⟩⟩
  · rw [hb]; exact hwo
  · refine (P1.congr (h' := fun _ => 0) (fun j _ => by simp) (fun j _ => rfl) (fun _ _ => rfl)).kept hks fun b hb => ?_
    exact ⟨fun e => hbo (e.symm.trans hb), fun j hj ho => by have := hlow j hj; have := ho.1; omega⟩
  · by_cases e : j = i
    · subst e; simp only [if_true]; exact hN
    · simp only [if_neg e]; exact F.size j (by omega)
  · by_cases e : i = j
    · subst e
      rw [if_pos (by omega)]
      have hlt : i < cur.size := (Array.getElem?_eq_some_iff.1 (hx i hi)).1
      simp [hlt]
    · rw [Array.getElem?_setIfInBounds_ne e, hx j hj]
      by_cases h1 : j < i
      · rw [if_pos h1, if_pos (by omega)]
      · rw [if_neg h1, if_neg (by omega)]
  · rw [caseRows_congr (R := R) (fun j hj => if_neg (by omega))]
    have h1 := F.own
    refine ⟨h1.1, h1.2.imp id fun ⟨g, cp, cu, a, b, c, d⟩ => ⟨g, cp, cu, a, b, hks.heap (hk.heap c fun h => h) (by omega), d⟩⟩
  · have h1 := F.own.lt b hb
    by_cases e : j = i
    · subst e
      simp only [if_true] at ho
      have := ho.1; omega
    · simp only [if_neg e] at ho
      exact F.lvOut j (by omega) b hb ho
/-- One more sent. -/
theorem Mid.sent {w : World} {bell tick onb M K : Nat} {onf : Nat → Bool} {i q : Nat} {lv : Value} {W W' : World} {R : Nat → Pipe} {bv bv' : Int} (F : Mid w bell tick onb M K onf i q lv W R bv) (hto : tick + 1 < onb) (hbt : bell < tick) (hwb : w.heap.size ≤ bell)
    (hP : Pipes R (i + 1) bell itc W' (fun _ => 0) (fun j => if j = i then q + 1 else if j = i then q else if onf j then K else 0) bv') (hk : Keeps W W' (fun b => (R i).own b ∨ b = bell)) : Mid w bell tick onb M K onf i (q + 1) lv W' R bv' := by
  have hl := F.low i (Nat.lt_succ_self i)
  have hcb : tick + 1 ≠ bell := by omega
  refine ⟨F.keeps.above hk fun b hb => ?_, hP.congr (fun _ _ => rfl) (fun j _ => ?_) (fun _ _ => rfl), F.size, hk.heap F.tickC (fun h => h.elim (fun x => by have := x.1; omega) (by omega)), hk.heap F.cO (fun h => h.elim (fun x => by have := x.1; omega) (by omega)), ?_, ?_, F.low, F.lvOut⟩
  · rcases hb with h | h
    · have := F.pipes.above (Nat.lt_succ_self i) h; omega
    · omega
  · by_cases e : j = i <;> simp [e]
  · obtain ⟨cur, hc, hx⟩ := F.onA
    exact ⟨cur, hk.heap hc (fun h => h.elim (fun x => by have := x.1; omega) (by omega)), hx⟩
  · refine ⟨F.own.1, F.own.2.imp id fun ⟨g, cp, cu, a, b, c, d⟩ => ⟨g, cp, cu, a, b, hk.heap c (fun h => h.elim (fun x => ?_) (by omega)), d⟩⟩
    exact F.lvOut i (Nat.lt_succ_self i) g (by rw [a]; rfl) x
theorem caseRows_succ (R : Nat → Pipe) (i : Nat) : caseRows R (i + 1) = caseRows R i ++ [.pointer (some ⟨(R i).p, 0, none⟩), .bool false, .int .i64 0] := by
  unfold caseRows
  rw [List.range_succ, List.flatMap_append]
  simp
/-- The case is appended. -/
theorem Mid.fill {w : World} {bell tick onb M K : Nat} {onf : Nat → Bool} {i q : Nat} {lv lv' : Value} {W W' : World} {R : Nat → Pipe} {bv : Int} {o : Obj} (F : Mid w bell tick onb M K onf i q lv W R bv) (hq : q = if onf i then K else 0) (hto : tick + 1 < onb) (hbt : bell < tick) (hwo : w.heap.size ≤ onb) (hob : onb < W.heap.size)
    (hown : W'.ownsRow (onb + 1) 78 3 lv' (i + 1) (caseRows R i ++ [.pointer (some ⟨(R i).p, 0, none⟩), .bool false, .int .i64 0])) (hg : (W.alloc o).grownBy W' lv.ownBlock) (hat : lv'.ownBlock = lv.ownBlock ∨ lv'.ownBlock = some (W.alloc o).heap.size) :
    Fill w bell tick onb M K onf (i + 1) lv' W' R bv := by
  have hrow : ∀ k, lv.ownBlock = some k → onb + 1 ≤ k := fun k hk => (F.own.lt k hk).1
  have hk : Keeps W W' (fun b => lv.ownBlock = some b) := (Keeps.alloc W o _).trans (grown_keeps hg fun k hk _ => hk)
  refine ⟨F.keeps.above hk fun b hb => by have := hrow b hb; omega, (F.pipes.kept hk fun b hb => ⟨by have := hrow b hb; omega, fun j hj => F.lvOut j hj b hb⟩).congr (fun _ _ => rfl) (fun j hj => ?_) (fun _ _ => rfl), F.size, hk.heap F.tickC (fun h => by have := hrow _ h; omega), hk.heap F.cO (fun h => by have := hrow _ h; omega), ?_, by rw [caseRows_succ]; exact hown, F.low, fun j hj b hb ho => ?_⟩
  · by_cases e : j = i
    · subst e; simp [hq]
    · simp [e]
  · obtain ⟨cur, hc, hx⟩ := F.onA
    exact ⟨cur, hk.heap hc (fun h => by have := hrow _ h; omega), hx⟩
  · rcases hat with h | h
    · exact F.lvOut j hj b (h ▸ hb) ho
    · rw [h] at hb
      obtain rfl := Option.some.inj hb
      have := ho.2
      have := F.pipes.hiLe j hj
      rw [heap_alloc_size'] at *
      omega
theorem caseRows_get (R : Nat → Pipe) (i : Nat) : ∀ j, j < i → (caseRows R i)[j * 3]? = some (.pointer (some ⟨(R j).p, 0, none⟩)) ∧ (caseRows R i)[j * 3 + 1]? = some (.bool false) ∧ (caseRows R i)[j * 3 + 2]? = some (.int .i64 0) := by
  have hlen : ∀ i, (caseRows R i).length = i * 3 := by
    intro i
    induction i with
    | zero => rfl
    | succ i ih => rw [caseRows_succ, List.length_append, ih]; simp; omega
  induction i with
  | zero => intro j h; exact absurd h (Nat.not_lt_zero _)
  | succ i ih =>
    intro j hj
    rw [caseRows_succ]
    by_cases e : j = i
    · subst e
      refine ⟨?_, ?_, ?_⟩
      · rw [List.getElem?_append_right (by rw [hlen]; omega), hlen, Nat.sub_self]; rfl
      · rw [List.getElem?_append_right (by rw [hlen]; omega), hlen, show j * 3 + 1 - j * 3 = 1 by omega]; rfl
      · rw [List.getElem?_append_right (by rw [hlen]; omega), hlen, show j * 3 + 2 - j * 3 = 2 by omega]; rfl
    · obtain ⟨a, b, c⟩ := ih j (by omega)
      refine ⟨?_, ?_, ?_⟩
      · rw [List.getElem?_append_left (by rw [hlen]; omega)]; exact a
      · rw [List.getElem?_append_left (by rw [hlen]; omega)]; exact b
      · rw [List.getElem?_append_left (by rw [hlen]; omega)]; exact c
theorem Fill.row {w : World} {bell tick onb M K : Nat} {onf : Nat → Bool} {i : Nat} {lv : Value} {W : World} {R : Nat → Pipe} {bv : Int} (F : Fill w bell tick onb M K onf i lv W R bv) (hi : 1 ≤ i) :
    ∃ lb cap, lv = .slice (some ⟨lb, 0, none⟩) i cap ∧ CaseRow W lb i R := by
  rcases F.own.2 with ⟨_, h⟩ | ⟨g, cap, cur, hv, _, hc, _, _, _, ht⟩
  · omega
  · refine ⟨g, cap, hv, cur, hc, fun j hj => ?_⟩
    have key : ∀ k v, k < i * 3 → (caseRows R i)[k]? = some v → cur[k]? = some v := by
      intro k v hk e
      rw [← ht, List.getElem?_take, if_pos hk] at e
      simpa using e
    obtain ⟨a, b, c⟩ := caseRows_get R i j hj
    exact ⟨key _ _ (by omega) a, key _ _ (by omega) b, key _ _ (by omega) c⟩
/-- Behind nn Selects. -/
structure Race (w : World) (bell tick onb lb sb M K : Nat) (onf : Nat → Bool) (R : Nat → Pipe) (nn : Nat) (W : World) (h t : Nat → Nat) (bv : Int) (sn : Nat → Nat) : Prop where
  keeps : Keeps w W (fun _ => False)
  bench : Bench R M bell tick (tick + 1) lb itc W h t bv (nn : Int)
  tt : ∀ j, j < M → t j = if onf j then K else 0
  hh : ∀ j, j < M → h j ≤ nn ∧ (onf j = false → h j = 0)
  onA : ∃ cur, W.heap[onb]? = some (.cells cur 4 (0, 0)) ∧ ∀ j, j < M → cur[j]? = some (.bool (onf j))
  snA : ∃ cur, W.heap[sb]? = some (.cells cur 3 (0, 0)) ∧ ∀ j, j < M → cur[j]? = some (.int .i64 (sn j : Int))
  snn : ∀ j, j < M → sn j ≤ nn ∧ (onf j = true → sn j ≤ (nn + M - 1 - j) % M)
  nxA : ∃ cur, W.heap[sb + 1]? = some (.cells cur 2 (0, 0)) ∧ ∀ j, j < M → cur[j]? = some (.int .i64 (h j : Int))
theorem mod_step {nn M j : Nat} (hj : j < M) (h : ¬ nn % M = j) : (nn + M - 1 - j) % M + 1 = (nn + 1 + M - 1 - j) % M := by
  have hM : 0 < M := by omega
  have h1 := Nat.mod_add_div nn M
  have hr : nn % M < M := Nat.mod_lt _ hM
  generalize nn % M = r at *
  generalize nn / M = q at *
  subst h1
  -- nn = r + M * q
  have key : ∀ a, a < M → ∀ q', (a + M * q') % M = a := fun a ha q' => by rw [Nat.add_mul_mod_self_left, Nat.mod_eq_of_lt ha]
  rcases Nat.lt_or_gt_of_ne h with hlt | hgt
  · -- r < j
    have e1 : r + M * q + M - 1 - j = (r + M - 1 - j) + M * q := by omega
    have e2 : r + M * q + 1 + M - 1 - j = (r + M - j) + M * q := by omega
    rw [e1, e2, key _ (by omega), key _ (by omega)]
    omega
  · have e1 : r + M * q + M - 1 - j = (r - 1 - j) + M * (q + 1) := by rw [Nat.mul_add, Nat.mul_one]; omega
    have e2 : r + M * q + 1 + M - 1 - j = (r - j) + M * (q + 1) := by rw [Nat.mul_add, Nat.mul_one]; omega
    rw [e1, e2, key _ (by omega), key _ (by omega)]
    omega
theorem Bench.keptOut {R : Nat → Pipe} {n bell tick c lb : Nat} {it : Nat → Nat → Int} {w W : World} {h t : Nat → Nat} {bv tv : Int} (B : Bench R n bell tick c lb it w h t bv tv) {S : Nat → Prop} (hk : Keeps w W S)
    (hS : ∀ b, S b → b ≠ bell ∧ b ≠ tick ∧ b ≠ c ∧ b ≠ lb ∧ ∀ j, j < n → ¬ (R j).own b) : Bench R n bell tick c lb it W h t bv tv :=
  ⟨fun j hj => let ⟨val, a, b⟩ := B.pipes j hj; ⟨val, a.kept hk fun x hx hs => (hS x hs).2.2.2.2 j hj hx, b⟩, B.bells, B.order, fun j hj => Nat.le_trans (B.hiLe j hj) hk.size, hk.heap B.bellC fun x => (hS _ x).1 rfl, hk.heap B.tickC fun x => (hS _ x).2.1 rfl, hk.heap B.cO fun x => (hS _ x).2.2.1 rfl, B.row.kept hk fun x => (hS _ x).2.2.2.1 rfl, B.out, B.bt⟩
/-- Within a round: the first k of the counts are brought up. -/
structure Lap (w : World) (bell tick onb lb sb M : Nat) (onf : Nat → Bool) (R : Nat → Pipe) (nn i k : Nat) (W : World) (h t : Nat → Nat) (bv : Int) (sn : Nat → Nat) : Prop where
  keeps : Keeps w W (fun _ => False)
  bench : Bench R M bell tick (tick + 1) lb itc W h t bv ((nn + 1 : Nat) : Int)
  onA : ∃ cur, W.heap[onb]? = some (.cells cur 4 (0, 0)) ∧ ∀ j, j < M → cur[j]? = some (.bool (onf j))
  snA : ∃ cur, W.heap[sb]? = some (.cells cur 3 (0, 0)) ∧ ∀ j, j < M → cur[j]? = some (.int .i64 ((if j < k then (if j = i then 0 else sn j + 1) else sn j : Nat) : Int))
  nxA : ∃ cur, W.heap[sb + 1]? = some (.cells cur 2 (0, 0)) ∧ ∀ j, j < M → cur[j]? = some (.int .i64 (h j : Int))
/-- One count is brought up. -/
theorem Lap.next {w : World} {bell tick onb lb sb M : Nat} {onf : Nat → Bool} {R : Nat → Pipe} {nn i k : Nat} {W W' : World} {h t : Nat → Nat} {bv : Int} {sn : Nat → Nat} (L : Lap w bell tick onb lb sb M onf R nn i k W h t bv sn) (hk : k < M)
    (hws : w.heap.size ≤ sb) (hls : lb < sb) (hos : onb < sb) (hts : tick + 1 < sb) (hbs : bell < sb) (hhi : ∀ j, j < M → (R j).hi ≤ sb) (hW : Keeps W W' (fun b => b = sb))
    (hsb : ∀ cur, W.heap[sb]? = some (.cells cur 3 (0, 0)) → ∃ cur', W'.heap[sb]? = some (.cells cur' 3 (0, 0)) ∧ (∀ j, j ≠ k → cur'[j]? = cur[j]?) ∧ cur'[k]? = some (.int .i64 ((if k = i then 0 else sn k + 1 : Nat) : Int))) : Lap w bell tick onb lb sb M onf R nn i (k + 1) W' h t bv sn := by
  refine ⟨L.keeps.above hW fun b hb => by omega, L.bench.keptOut hW fun b hb => ⟨by omega, by omega, by omega, by omega, fun j hj ho => by have := hhi j hj; have := ho.2; omega⟩, ?_, ?_, ?_⟩
  · obtain ⟨cur, hc, hx⟩ := L.onA
    exact ⟨cur, hW.heap hc (by omega), hx⟩
  · obtain ⟨cur, hc, hx⟩ := L.snA
    obtain ⟨cur', hc', h1, h2⟩ := hsb cur hc
    refine ⟨cur', hc', fun j hj => ?_⟩
    by_cases e : j = k
    · subst e; rw [h2, if_pos (Nat.lt_succ_self j)]
    · rw [h1 j e, hx j hj]
      by_cases h3 : j < k
      · rw [if_pos h3, if_pos (show j < k + 1 by omega)]
      · rw [if_neg h3, if_neg (show ¬ j < k + 1 by omega)]
  · obtain ⟨cur, hc, hx⟩ := L.nxA
    exact ⟨cur, hW.heap hc (by omega), hx⟩
end Go.Proofs.Ytekmbijlaonnmaa.Z
