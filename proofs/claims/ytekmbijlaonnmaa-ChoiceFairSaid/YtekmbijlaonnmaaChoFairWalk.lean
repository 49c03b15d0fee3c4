/-
  ChoiceFair, walked whole: from its entry to its return, with the answer true, in a world in which all that was there stands; for every two integers and every slice of bools.
-/
import Derived.Test.YtekmbijlaonnmaaChoFair
set_option linter.unusedSimpArgs false
set_option linter.unusedVariables false
namespace Go.Proofs.Ytekmbijlaonnmaa.Z
open Go.Conc
theorem gt_cut {P : Program} {Z : Goroutine → World → Prop} {w : World} {b : Frame} {a : Act} {k : List Item} {cs : List Frame} (lit : (Nat → Value) → Array Value) (Inv : World → Prop) {x y : Code}
    (h1 : (∀ a' W, Inv W → a' = ⟨lit (fun k => a'.tmps.getD k undef), []⟩ → Gt P Z (G (b.at a' (.code y :: k)) cs) W) → Gt P Z (G (b.at a (.code x :: .code y :: k)) cs) w)
    (h2 : ∀ g W, Inv W → Gt P Z (G (b.at ⟨lit g, []⟩ (.code y :: k)) cs) W) : Gt P Z (G (b.at a (.code x :: .code y :: k)) cs) w :=
  h1 fun a' W hi ha => by rw [ha]; exact h2 _ W hi
theorem Lap.race {w : World} {bell tick onb lb sb M K : Nat} {onf : Nat → Bool} {R : Nat → Pipe} {nn i d : Nat} {W W0 : World} {h t : Nat → Nat} {bv bv0 : Int} {sn : Nat → Nat}
    (L : Lap w bell tick onb lb sb M onf R nn i M W (fun j => if j = i then h i + 1 else h j) (fun j => if j = i then t i else t j) bv sn) (Q : Race w bell tick onb lb sb M K onf R nn W0 h t bv0 sn)
    (hi : i < M) (honi : onf i = true) (hid : i = (nn + d) % M) (hpast : ∀ d', d' < d → h ((nn + d') % M) = t ((nn + d') % M)) (hnK : nn < K) :
    Race w bell tick onb lb sb M K onf R (nn + 1) W (fun j => if j = i then h i + 1 else h j) (fun j => if j = i then t i else t j) bv (fun j => if j = i then 0 else sn j + 1) := by
  refine ⟨L.keeps, L.bench, fun j hj => ?_, fun j hj => ?_, L.onA, ?_, fun j hj => ?_, L.nxA⟩
  · by_cases e : j = i
    · subst e; simp only [if_true]; exact Q.tt j hj
    · simp only [if_neg e]; exact Q.tt j hj
  · by_cases e : j = i
    · subst e; simp only [if_true]; exact ⟨by have := (Q.hh j hj).1; omega, fun x => by rw [honi] at x; cases x⟩
    · simp only [if_neg e]; exact ⟨by have := (Q.hh j hj).1; omega, (Q.hh j hj).2⟩
  · obtain ⟨cur, hc, hx⟩ := L.snA
    exact ⟨cur, hc, fun j hj => by rw [hx j hj, if_pos hj]⟩
  · by_cases e : j = i
    · subst e; simp only [if_true]; exact ⟨Nat.zero_le _, fun _ => Nat.zero_le _⟩
    · simp only [if_neg e]
      refine ⟨by have := (Q.snn j hj).1; omega, fun hon => ?_⟩
      have h1 := (Q.snn j hj).2 hon
      have hne : ¬ nn % M = j := fun x => by
        have hd : 0 < d := by
          rcases Nat.eq_zero_or_pos d with h0 | h0
          · subst h0; rw [Nat.add_zero] at hid; exact absurd (x.symm.trans hid.symm) e
          · exact h0
        have h2 := hpast 0 hd
        rw [Nat.add_zero, x] at h2
        have h3 := Q.tt j hj
        rw [hon] at h3
        have h4 := (Q.hh j hj).1
        simp at h3; omega
      have := mod_step hj hne
      omega
theorem Lap.nextI {w : World} {bell tick onb lb sb M : Nat} {onf : Nat → Bool} {R : Nat → Pipe} {nn i k : Nat} {W : World} {h t : Nat → Nat} {bv : Int} {sn : Nat → Nat} (L : Lap w bell tick onb lb sb M onf R nn i k W h t bv sn) (hk : k < M)
    (hws : w.heap.size ≤ sb) (hls : lb < sb) (hos : onb < sb) (hts : tick + 1 < sb) (hbs : bell < sb) (hhi : ∀ j, j < M → (R j).hi ≤ sb) (hki : k = i) (x : Value) :
    Lap w bell tick onb lb sb M onf R nn i (k + 1) ((W.setCell ⟨sb, k, none⟩ x).setCell ⟨sb, k, none⟩ (.int .i64 0)) h t bv sn := by
  have hK : Keeps W ((W.setCell ⟨sb, k, none⟩ x).setCell ⟨sb, k, none⟩ (.int .i64 0)) (fun b => b = sb) := (Keeps.set (S := fun b => b = sb) W x rfl).trans (Keeps.set (S := fun b => b = sb) _ _ rfl)
  refine L.next hk hws hls hos hts hbs hhi hK fun cur hc => ⟨_, heap_set_self (heap_set_self hc _) _, fun j hj => ?_, ?_⟩
  · rw [Array.getElem?_setIfInBounds_ne (Ne.symm hj), Array.getElem?_setIfInBounds_ne (Ne.symm hj)]
  · obtain ⟨cs5, hcs5, hxs5⟩ := L.snA
    rw [hcs5] at hc
    obtain ⟨rfl⟩ := Obj.cells.inj (Option.some.inj hc)
    have hlt : k < cs5.size := (Array.getElem?_eq_some_iff.1 (hxs5 k hk)).1
    rw [if_pos hki]
    simp [hlt]
theorem Lap.nextN {w : World} {bell tick onb lb sb M : Nat} {onf : Nat → Bool} {R : Nat → Pipe} {nn i k : Nat} {W : World} {h t : Nat → Nat} {bv : Int} {sn : Nat → Nat} (L : Lap w bell tick onb lb sb M onf R nn i k W h t bv sn) (hk : k < M)
    (hws : w.heap.size ≤ sb) (hls : lb < sb) (hos : onb < sb) (hts : tick + 1 < sb) (hbs : bell < sb) (hhi : ∀ j, j < M → (R j).hi ≤ sb) (hki : ¬ k = i) :
    Lap w bell tick onb lb sb M onf R nn i (k + 1) (W.setCell ⟨sb, k, none⟩ (.int .i64 ((sn k : Int) + 1))) h t bv sn := by
  refine L.next hk hws hls hos hts hbs hhi (Keeps.set (S := fun b => b = sb) W _ rfl) fun cur hc => ⟨_, heap_set_self hc _, fun j hj => ?_, ?_⟩
  · rw [Array.getElem?_setIfInBounds_ne (Ne.symm hj)]
  · obtain ⟨cs5, hcs5, hxs5⟩ := L.snA
    rw [hcs5] at hc
    obtain ⟨rfl⟩ := Obj.cells.inj (Option.some.inj hc)
    have hlt : k < cs5.size := (Array.getElem?_eq_some_iff.1 (hxs5 k hk)).1
    rw [if_neg hki]
    simp [hlt]
set_option maxHeartbeats 4000000 in
set_option maxRecDepth 20000 in
theorem choiceFair_T (w : World) (a b : Int) (ha : -9223372036854775808 ≤ a ∧ a < 9223372036854775808) (hb : -9223372036854775808 ≤ b ∧ b < 9223372036854775808) (ao : Option Addr) (len cap : Nat) (B : Nat → Bool) (hlen : len < 2 ^ 62)
    (hrd : ∀ i, i < len → ∃ ad, ao = some ad ∧ w.cell? (ad.add i) = some (.bool (B i))) (Z : Goroutine → World → Prop) (cs : List Frame)
    (hfin : ∀ (a : Act) (k : List Item) (W : World), a.defers = [] → a.tmps.getD 6 undef = .bool true → Keeps w W (fun _ => False) → Gt Try.prog Z (G ((base 5).at a (.code .ret :: k)) cs) W) :
    Gt Try.prog Z (G (Frame.enter Try.prog 5 #[.int .i64 a, .int .i64 b, .slice ao len cap] .normal) cs) w := by
  have hat1 := at21_T w a ha 6 (by decide) (by decide)
  have hat2 := at21_T w b hb 60 (by decide) (by decide)
  have hfin' := Lib.hid hfin
  clear hfin
  rw [enter_at _ Try.func5 rfl]
  simp only [Try.ntmps5, List.size_toArray, List.length_cons, List.length_nil, Nat.reduceAdd, Nat.reduceSub, Array.replicate_succ, Array.replicate_zero, List.push_toArray, List.append_toArray, List.nil_append, List.cons_append]
  (repeat (first | (first | refine gt_seq ?_ | refine gt_block ?_ | refine gt_region_end ?_ | refine gt_skip ?_ | refine gt_inBlock ?_ | refine gt_label ?_ | refine gt_scope ?_ | refine gt_inScope ?_ | refine gt_exit rfl ?_) | (refine gt_region ?_; simp only [List.size_toArray, List.length_cons, List.length_nil, Nat.reduceAdd, Nat.zero_add, List.range, List.range.loop]) | (refine gt_op rfl (by rfl) (by rfl) (by decide) (fun dd K hK => ?_); go_simp; refine hK _ _ ?_; clear hK K; (try walk_nrm); (try simp only [at_at', alloc_at', setCell_at']); refine Gt.at ?_ _) | (refine gt_unwanted rfl (by rfl) ?_; try walk_nrm) | (first | refine gt_cond_t rfl ?_ | refine gt_cond_f rfl ?_)))
  refine gt_callf rfl (by rfl) (by decide) rfl rfl Try.func34 (by rfl) rfl (hat1) (by simp [Act.eval]) ?_
  rintro _ W' ⟨r1, hr1, rfl, e'⟩; subst W'
  clear hat1
  have hM : IntKind.i64.wrap (1 + (r1 : Int)) = 1 + r1 := wraps_i64 _ (by omega) (by omega)
  walk_nrm
  (repeat (first | (first | refine gt_seq ?_ | refine gt_block ?_ | refine gt_region_end ?_ | refine gt_skip ?_ | refine gt_inBlock ?_ | refine gt_label ?_ | refine gt_scope ?_ | refine gt_inScope ?_ | refine gt_exit rfl ?_) | (refine gt_region ?_; simp only [List.size_toArray, List.length_cons, List.length_nil, Nat.reduceAdd, Nat.zero_add, List.range, List.range.loop]) | (refine gt_op rfl (by rfl) (by rfl) (by decide) (fun dd K hK => ?_); go_simp; refine hK _ _ ?_; clear hK K; (try walk_nrm); (try simp only [at_at', alloc_at', setCell_at']); refine Gt.at ?_ _) | (refine gt_unwanted rfl (by rfl) ?_; try walk_nrm) | (first | refine gt_cond_t rfl ?_ | refine gt_cond_f rfl ?_)))
  refine gt_callf rfl (by rfl) (by decide) rfl rfl Try.func34 (by rfl) rfl (hat2) (by simp [Act.eval]) ?_
  rintro _ W' ⟨K, hK, rfl, e'⟩; subst W'
  clear hat2
  obtain ⟨M, hMM⟩ : ∃ M : Nat, 1 + (r1 : Int) = M := ⟨1 + r1, by push_cast; rfl⟩
  have hM1 : 1 ≤ M := by omega
  have hM6 : M ≤ 6 := by omega
  rw [hMM] at *
  walk_nrm
  (repeat (first | (first | refine gt_seq ?_ | refine gt_block ?_ | refine gt_region_end ?_ | refine gt_skip ?_ | refine gt_inBlock ?_ | refine gt_label ?_ | refine gt_scope ?_ | refine gt_inScope ?_ | refine gt_exit rfl ?_) | (refine gt_region ?_; simp only [List.size_toArray, List.length_cons, List.length_nil, Nat.reduceAdd, Nat.zero_add, List.range, List.range.loop]) | (refine gt_op rfl (by rfl) (by rfl) (by decide) (fun dd K hK => ?_); go_simp; refine hK _ _ ?_; clear hK K; (try walk_nrm); (try simp only [at_at', alloc_at', setCell_at']); refine Gt.at ?_ _) | (refine gt_unwanted rfl (by rfl) ?_; try walk_nrm) | (first | refine gt_cond_t rfl ?_ | refine gt_cond_f rfl ?_)))
  refine gt_callf rfl (by rfl) (by decide) rfl rfl Try.func18 (by rfl) rfl (new_T w 0) (by simp [Act.eval]) ?_
  rintro _ W' ⟨rfl, e'⟩; subst W'
  walk_nrm
  refine gt_gen (fun W' => Keeps w W' (fun _ => False) ∧ CellB W' w.heap.size 0) ⟨Keeps.alloc _ _ _, heap_alloc_new' _ _⟩ ?_
  rintro W1 ⟨hk1, hb1⟩
  (repeat (first | (first | refine gt_seq ?_ | refine gt_block ?_ | refine gt_region_end ?_ | refine gt_skip ?_ | refine gt_inBlock ?_ | refine gt_label ?_ | refine gt_scope ?_ | refine gt_inScope ?_ | refine gt_exit rfl ?_) | (refine gt_region ?_; simp only [List.size_toArray, List.length_cons, List.length_nil, Nat.reduceAdd, Nat.zero_add, List.range, List.range.loop]) | (refine gt_op rfl (by rfl) (by rfl) (by decide) (fun dd K hK => ?_); go_simp; refine hK _ _ ?_; clear hK K; (try walk_nrm); (try simp only [at_at', alloc_at', setCell_at']); refine Gt.at ?_ _) | (refine gt_unwanted rfl (by rfl) ?_; try walk_nrm) | (first | refine gt_cond_t rfl ?_ | refine gt_cond_f rfl ?_)))
  refine gt_callf rfl (by rfl) (by decide) rfl rfl Try.func35 (by rfl) rfl (choice_new_T W1 w.heap.size) (by simp [Act.eval]) ?_
  rintro _ W' ⟨rfl, e'⟩; subst W'
  walk_nrm
  have hbl := lt_of_heap hb1
  refine gt_gen (fun W' => Keeps w W' (fun _ => False) ∧ CellB W' w.heap.size 0 ∧ CellB W' W1.heap.size 0 ∧ W'.heap[W1.heap.size + 1]? = some (choiceO w.heap.size W1.heap.size)) ⟨(hk1.allocNew _).allocNew _, heap_alloc_old' (heap_alloc_old' hb1), heap_alloc_old' (heap_alloc_new' _ _), by have := heap_alloc_new' (W1.alloc (cellO 0)) (choiceO w.heap.size W1.heap.size); rw [heap_alloc_size'] at this; exact this⟩ ?_
  rintro W2 ⟨hk2, hb2, ht2, hc2⟩
  clear hk1 hb1
  generalize W1.heap.size = tick at *
  have hMp : (0 : Int) ≤ (M : Int) := by omega
  (repeat (first | (first | refine gt_seq ?_ | refine gt_block ?_ | refine gt_region_end ?_ | refine gt_skip ?_ | refine gt_inBlock ?_ | refine gt_label ?_ | refine gt_scope ?_ | refine gt_inScope ?_ | refine gt_exit rfl ?_) | (refine gt_region ?_; simp only [List.size_toArray, List.length_cons, List.length_nil, Nat.reduceAdd, Nat.zero_add, List.range, List.range.loop]) | (refine gt_op rfl (by rfl) (by rfl) (by decide) (fun dd K hK => ?_); go_simp; refine hK _ _ ?_; clear hK K; (try walk_nrm); (try simp only [at_at', alloc_at', setCell_at']); refine Gt.at ?_ _) | (refine gt_unwanted rfl (by rfl) ?_; try walk_nrm) | (first | refine gt_cond_t rfl ?_ | refine gt_cond_f rfl ?_)))
  refine gt_make rfl (by rfl) (by decide) rfl (n := M) rfl rfl Try.underlying59 (z := .bool false) (by kernel_rfl) (by kernel_rfl) rfl (by omega) fun cur hcs hcz => ?_
  have h2s : tick + 1 < W2.heap.size := lt_of_heap hc2
  have hF0 : Fill w w.heap.size tick W2.heap.size M K (fun j => decide (len ≤ j) || B j) 0 (.slice none 0 0) (W2.alloc (.cells cur 4 (0, 0))) (fun _ => default) 0 :=
    ⟨hk2.allocNew _, Pipes.zero (heap_alloc_old' hb2), fun _ h => absurd h (Nat.not_lt_zero _), heap_alloc_old' ht2, heap_alloc_old' hc2, ⟨cur, heap_alloc_new' _ _, fun j hj => by rw [hcz j hj, if_neg (Nat.not_lt_zero _)]⟩, World.ownsRow_nil _ _ _ _, fun _ h => absurd h (Nat.not_lt_zero _), fun _ h => absurd h (Nat.not_lt_zero _)⟩
  clear hk2 hb2 ht2 hc2 hcz hcs
  generalize W2.alloc (.cells cur 4 (0, 0)) = W3 at *
  generalize W2.heap.size = onb at *
  walk_nrm
  (repeat (first | (first | refine gt_seq ?_ | refine gt_block ?_ | refine gt_region_end ?_ | refine gt_skip ?_ | refine gt_inBlock ?_ | refine gt_label ?_ | refine gt_scope ?_ | refine gt_inScope ?_ | refine gt_exit rfl ?_) | (refine gt_region ?_; simp only [List.size_toArray, List.length_cons, List.length_nil, Nat.reduceAdd, Nat.zero_add, List.range, List.range.loop]) | (refine gt_op rfl (by rfl) (by rfl) (by decide) (fun dd K hK => ?_); go_simp; refine hK _ _ ?_; clear hK K; (try walk_nrm); (try simp only [at_at', alloc_at', setCell_at']); refine Gt.at ?_ _) | (refine gt_unwanted rfl (by rfl) ?_; try walk_nrm) | (first | refine gt_cond_t rfl ?_ | refine gt_cond_f rfl ?_)))
  refine gt_loopA (r := M) (fun (s : Nat × Value × Bool) g => (List.toArray (.int .i64 (M : Int) :: .int .i64 (K : Int) :: .slice ao len cap :: (g 3) :: (g 4) :: (g 5) :: .bool false :: .pointer (some ⟨w.heap.size, 0, none⟩) :: .pointer (some ⟨tick + 1, 0, none⟩) :: s.2.1 :: .slice (some ⟨onb, 0, none⟩) M M :: .bool s.2.2 :: .int .i64 (s.1 : Int) :: (g 13) :: (g 14) :: (g 15) :: (g 16) :: (g 17) :: (g 18) :: (g 19) :: (g 20) :: (g 21) :: (g 22) :: (g 23) :: (g 24) :: (g 25) :: (g 26) :: (g 27) :: (g 28) :: (g 29) :: (g 30) :: (g 31) :: (g 32) :: (g 33) :: (g 34) :: (g 35) :: (g 36) :: (g 37) :: (g 38) :: (g 39) :: (g 40) :: (g 41) :: (g 42) :: (g 43) :: (g 44) :: (g 45) :: (g 46) :: (g 47) :: (g 48) :: (g 49) :: (g 50) :: (g 51) :: (g 52) :: (g 53) :: (g 54) :: (g 55) :: (g 56) :: (g 57) :: (g 58) :: (g 59) :: (g 60) :: (g 61) :: (g 62) :: (g 63) :: (g 64) :: (g 65) :: (g 66) :: (g 67) :: (g 68) :: (g 69) :: (g 70) :: (g 71) :: (g 72) :: (g 73) :: (g 74) :: (g 75) :: (g 76) :: (g 77) :: (g 78) :: (g 79) :: (g 80) :: (g 81) :: (g 82) :: (g 83) :: (g 84) :: (g 85) :: (g 86) :: (g 87) :: (g 88) :: (g 89) :: (g 90) :: (g 91) :: (g 92) :: (g 93) :: (g 94) :: (g 95) :: (g 96) :: (g 97) :: (g 98) :: (g 99) :: (g 100) :: (g 101) :: (g 102) :: (g 103) :: (g 104) :: (g 105) :: (g 106) :: (g 107) :: (g 108) :: (g 109) :: (g 110) :: (g 111) :: (g 112) :: (g 113) :: (g 114) :: (g 115) :: (g 116) :: (g 117) :: (g 118) :: (g 119) :: (g 120) :: (g 121) :: (g 122) :: (g 123) :: (g 124) :: (g 125) :: (g 126) :: (g 127) :: (g 128) :: (g 129) :: (g 130) :: (g 131) :: (g 132) :: (g 133) :: (g 134) :: (g 135) :: (g 136) :: (g 137) :: (g 138) :: (g 139) :: (g 140) :: (g 141) :: (g 142) :: (g 143) :: (g 144) :: (g 145) :: (g 146) :: (g 147) :: (g 148) :: (g 149) :: (g 150) :: (g 151) :: (g 152) :: (g 153) :: (g 154) :: (g 155) :: (g 156) :: (g 157) :: (g 158) :: (g 159) :: (g 160) :: (g 161) :: (g 162) :: (g 163) :: (g 164) :: (g 165) :: (g 166) :: (g 167) :: (g 168) :: (g 169) :: (g 170) :: (g 171) :: (g 172) :: (g 173) :: (g 174) :: (g 175) :: (g 176) :: (g 177) :: (g 178) :: (g 179) :: (g 180) :: (g 181) :: (g 182) :: (g 183) :: (g 184) :: (g 185) :: (g 186) :: (g 187) :: (g 188) :: (g 189) :: (g 190) :: (g 191) :: (g 192) :: (g 193) :: (g 194) :: (g 195) :: (g 196) :: (g 197) :: (g 198) :: (g 199) :: (g 200) :: (g 201) :: []))) (fun r s W => s.1 + r = M ∧ s.2.2 = (List.range s.1).any (fun j => decide (len ≤ j) || B j) ∧ ∃ R bv, Fill w w.heap.size tick onb M K (fun j => decide (len ≤ j) || B j) s.1 s.2.1 W R bv)
    (0, .slice none 0 0, false) ⟨by simp, rfl, _, _, hF0⟩ rfl ?_
  clear hF0
  rintro r ⟨i, lv, sm⟩ g W ⟨hr, hsm, R, bv, hF⟩ ih
  have ih' := Lib.hid ih
  clear ih
  have hF' := Lib.hid hF
  clear hF
  try dsimp only
  by_cases hlt : (i : Int) < (M : Int)
  · (repeat (first | (first | refine gt_seq ?_ | refine gt_block ?_ | refine gt_region_end ?_ | refine gt_skip ?_ | refine gt_inBlock ?_ | refine gt_label ?_ | refine gt_scope ?_ | refine gt_inScope ?_ | refine gt_exit rfl ?_) | (refine gt_region ?_; simp only [List.size_toArray, List.length_cons, List.length_nil, Nat.reduceAdd, Nat.zero_add, List.range, List.range.loop]) | (refine gt_op rfl (by rfl) (by rfl) (by decide) (fun dd K hK => ?_); go_simp; refine hK _ _ ?_; clear hK K; (try walk_nrm); (try simp only [at_at', alloc_at', setCell_at']); refine Gt.at ?_ _) | (refine gt_unwanted rfl (by rfl) ?_; try walk_nrm) | (first | refine gt_cond_t rfl ?_ | refine gt_cond_f rfl ?_)))
    refine gt_callf rfl (by rfl) (by decide) rfl rfl Try.func36 (by rfl) rfl (pipe_new_T W 64 6 w.heap.size rfl (by decide) (by decide) (lt_of_heap hF'.out.pipes.bellC) (by decide)) (by simp [Act.eval]) ?_
    rintro _ W4 ⟨Rn, rfl, hPn, hNn, hbn, hln, hhn, hkn⟩
    walk_nrm
    have hi : i < M := by omega
    obtain ⟨cur, hcur, hcx⟩ := hF'.out.onA
    have hc4 := hkn.heap hcur fun h => h
    have o1 : W4.cell? ⟨onb, i, none⟩ = some (.bool false) := cell?_of hc4 (by rw [hcx i hi, if_neg (Nat.lt_irrefl _)])
    have o2 : W4.frozen? ⟨onb, i, none⟩ = false := frozen?_of hc4
    have hwo : w.heap.size ≤ onb := by omega
    have hob : onb < W.heap.size := lt_of_heap hcur
    obtain ⟨R', hR'i, hMid⟩ := hF'.out.mid hi hob h2s hwo hPn hNn hbn hln hhn hkn
    subst hR'i
    have hMid' := Lib.hid hMid
    have hkn' := Lib.hid hkn
    clear hPn hNn hbn hln hhn hkn hMid hcur
    (repeat (first | (refine gt_op rfl (by rfl) (by rfl) (by decide) (fun dd K hK => ?_); go_simp; refine hK _ _ ?_; clear hK K; (try walk_nrm); (try simp only [at_at', alloc_at', setCell_at']); refine Gt.at ?_ _) | (refine gt_unwanted rfl (by rfl) ?_; try walk_nrm))); refine gt_region_end ?_
    ((repeat (first | refine gt_seq ?_ | refine gt_block ?_ | refine gt_skip ?_ | refine gt_inBlock ?_ | refine gt_label ?_ | refine gt_scope ?_ | refine gt_inScope ?_ | refine gt_exit rfl ?_ | (first | refine gt_cond_t rfl ?_ | refine gt_cond_f rfl ?_))); (refine gt_region ?_; simp only [List.size_toArray, List.length_cons, List.length_nil, Nat.reduceAdd, Nat.zero_add, List.range, List.range.loop]); (repeat (first | (refine gt_op rfl (by rfl) (by rfl) (by decide) (fun dd K hK => ?_); go_simp; refine hK _ _ ?_; clear hK K; (try walk_nrm); (try simp only [at_at', alloc_at', setCell_at']); refine Gt.at ?_ _) | (refine gt_unwanted rfl (by rfl) ?_; try walk_nrm))); refine gt_region_end ?_)
    (repeat (first | refine gt_seq ?_ | refine gt_block ?_ | refine gt_skip ?_ | refine gt_inBlock ?_ | (first | refine gt_cond_t rfl ?_ | refine gt_cond_f rfl ?_)))
    refine gt_cut (fun g => (List.toArray (.int .i64 (M : Int) :: .int .i64 (K : Int) :: .slice ao len cap :: (g 3) :: (g 4) :: (g 5) :: .bool false :: .pointer (some ⟨w.heap.size, 0, none⟩) :: .pointer (some ⟨tick + 1, 0, none⟩) :: lv :: .slice (some ⟨onb, 0, none⟩) M M :: .bool sm :: .int .i64 (i : Int) :: .pointer (some ⟨(R' i).p, 0, none⟩) :: (g 14) :: (g 15) :: (g 16) :: (g 17) :: (g 18) :: (g 19) :: (g 20) :: (g 21) :: (g 22) :: (g 23) :: (g 24) :: (g 25) :: (g 26) :: (g 27) :: (g 28) :: (g 29) :: (g 30) :: (g 31) :: (g 32) :: (g 33) :: (g 34) :: (g 35) :: (g 36) :: (g 37) :: (g 38) :: (g 39) :: (g 40) :: (g 41) :: (g 42) :: (g 43) :: (g 44) :: (g 45) :: (g 46) :: (g 47) :: (g 48) :: (g 49) :: (g 50) :: (g 51) :: (g 52) :: (g 53) :: (g 54) :: (g 55) :: (g 56) :: (g 57) :: (g 58) :: (g 59) :: (g 60) :: (g 61) :: (g 62) :: (g 63) :: (g 64) :: (g 65) :: (g 66) :: (g 67) :: (g 68) :: (g 69) :: (g 70) :: (g 71) :: (g 72) :: (g 73) :: (g 74) :: (g 75) :: (g 76) :: (g 77) :: (g 78) :: (g 79) :: (g 80) :: (g 81) :: (g 82) :: (g 83) :: (g 84) :: (g 85) :: (g 86) :: (g 87) :: (g 88) :: (g 89) :: (g 90) :: (g 91) :: (g 92) :: (g 93) :: (g 94) :: (g 95) :: (g 96) :: (g 97) :: (g 98) :: (g 99) :: (g 100) :: (g 101) :: (g 102) :: (g 103) :: (g 104) :: (g 105) :: (g 106) :: (g 107) :: (g 108) :: (g 109) :: (g 110) :: (g 111) :: (g 112) :: (g 113) :: (g 114) :: (g 115) :: (g 116) :: (g 117) :: (g 118) :: (g 119) :: (g 120) :: (g 121) :: (g 122) :: (g 123) :: (g 124) :: (g 125) :: (g 126) :: (g 127) :: (g 128) :: (g 129) :: (g 130) :: (g 131) :: (g 132) :: (g 133) :: (g 134) :: (g 135) :: (g 136) :: (g 137) :: (g 138) :: (g 139) :: (g 140) :: (g 141) :: (g 142) :: (g 143) :: (g 144) :: (g 145) :: (g 146) :: (g 147) :: (g 148) :: (g 149) :: (g 150) :: (g 151) :: (g 152) :: (g 153) :: (g 154) :: (g 155) :: (g 156) :: (g 157) :: (g 158) :: (g 159) :: (g 160) :: (g 161) :: (g 162) :: (g 163) :: (g 164) :: (g 165) :: (g 166) :: (g 167) :: (g 168) :: (g 169) :: (g 170) :: (g 171) :: (g 172) :: (g 173) :: (g 174) :: (g 175) :: (g 176) :: (g 177) :: (g 178) :: (g 179) :: (g 180) :: (g 181) :: (g 182) :: (g 183) :: (g 184) :: (g 185) :: (g 186) :: (g 187) :: (g 188) :: (g 189) :: (g 190) :: (g 191) :: (g 192) :: (g 193) :: (g 194) :: (g 195) :: (g 196) :: (g 197) :: (g 198) :: (g 199) :: (g 200) :: (g 201) :: []))) (fun W' => Mid w w.heap.size tick onb M K (fun j => decide (len ≤ j) || B j) i 0 lv W' R' bv) (fun hk => ?_) (fun g W5 hm => ?_)
    · by_cases hle : len ≤ i
      · have hle' : (len : Int) ≤ (i : Int) := by omega
        ((repeat (first | refine gt_seq ?_ | refine gt_block ?_ | refine gt_skip ?_ | refine gt_inBlock ?_ | refine gt_label ?_ | refine gt_scope ?_ | refine gt_inScope ?_ | refine gt_exit rfl ?_ | (first | refine gt_cond_t rfl ?_ | refine gt_cond_f rfl ?_))); (refine gt_region ?_; simp only [List.size_toArray, List.length_cons, List.length_nil, Nat.reduceAdd, Nat.zero_add, List.range, List.range.loop]); (repeat (first | (refine gt_op rfl (by rfl) (by rfl) (by decide) (fun dd K hK => ?_); go_simp; refine hK _ _ ?_; clear hK K; (try walk_nrm); (try simp only [at_at', alloc_at', setCell_at']); refine Gt.at ?_ _) | (refine gt_unwanted rfl (by rfl) ?_; try walk_nrm))); refine gt_region_end ?_)
        exact hk _ _ (by have := hMid'.out; simpa [hle] using this) rfl
      · have hle' : ¬ ((len : Int) ≤ (i : Int)) := by omega
        have hle2 : (i : Int) < (len : Int) := by omega
        obtain ⟨ad, rfl, hcell⟩ := hrd i (by omega)
        have hcell4 := (hF'.out.keeps.trans hkn'.out).cell hcell
        ((repeat (first | refine gt_seq ?_ | refine gt_block ?_ | refine gt_skip ?_ | refine gt_inBlock ?_ | refine gt_label ?_ | refine gt_scope ?_ | refine gt_inScope ?_ | refine gt_exit rfl ?_ | (first | refine gt_cond_t rfl ?_ | refine gt_cond_f rfl ?_))); (refine gt_region ?_; simp only [List.size_toArray, List.length_cons, List.length_nil, Nat.reduceAdd, Nat.zero_add, List.range, List.range.loop]); (repeat (first | (refine gt_op rfl (by rfl) (by rfl) (by decide) (fun dd K hK => ?_); go_simp; refine hK _ _ ?_; clear hK K; (try walk_nrm); (try simp only [at_at', alloc_at', setCell_at']); refine Gt.at ?_ _) | (refine gt_unwanted rfl (by rfl) ?_; try walk_nrm))); refine gt_region_end ?_)
        exact hk _ _ (by have := hMid'.out; simpa [hle] using this) rfl
    clear o1 o2 hMid' hc4 hcx
    try dsimp only
    have hm' := Lib.hid hm
    obtain ⟨cur5, hcur5, hcx5⟩ := hm.onA
    have o1 : W5.cell? ⟨onb, i, none⟩ = some (.bool (decide (len ≤ i) || B i)) := cell?_of hcur5 (by rw [hcx5 i hi, if_pos (Nat.lt_succ_self i)])
    clear hm
    have hsm' := Lib.hid hsm
    clear hsm
    generalize hv : (decide (len ≤ i) || B i) = v at *
    have hR64 : (R' i).N = 64 := hm'.out.size i (Nat.lt_succ_self i)
    have hi1 : IntKind.i64.wrap ((i : Int) + 1) = i + 1 := wraps_i64 _ (by omega) (by omega)
    have hi2 : IntKind.i64.wrap (1000 * (i : Int)) = 1000 * i := wraps_i64 _ (by omega) (by omega)
    refine gt_seq ?_
    refine gt_cut (fun g => (List.toArray (.int .i64 (M : Int) :: .int .i64 (K : Int) :: .slice ao len cap :: (g 3) :: (g 4) :: (g 5) :: .bool false :: .pointer (some ⟨w.heap.size, 0, none⟩) :: .pointer (some ⟨tick + 1, 0, none⟩) :: lv :: .slice (some ⟨onb, 0, none⟩) M M :: .bool (sm || v) :: .int .i64 (i : Int) :: .pointer (some ⟨(R' i).p, 0, none⟩) :: (g 14) :: (g 15) :: (g 16) :: (g 17) :: (g 18) :: (g 19) :: (g 20) :: (g 21) :: (g 22) :: (g 23) :: (g 24) :: (g 25) :: (g 26) :: (g 27) :: (g 28) :: (g 29) :: (g 30) :: (g 31) :: (g 32) :: (g 33) :: (g 34) :: (g 35) :: (g 36) :: (g 37) :: (g 38) :: (g 39) :: (g 40) :: (g 41) :: (g 42) :: (g 43) :: (g 44) :: (g 45) :: (g 46) :: (g 47) :: (g 48) :: (g 49) :: (g 50) :: (g 51) :: (g 52) :: (g 53) :: (g 54) :: (g 55) :: (g 56) :: (g 57) :: (g 58) :: (g 59) :: (g 60) :: (g 61) :: (g 62) :: (g 63) :: (g 64) :: (g 65) :: (g 66) :: (g 67) :: (g 68) :: (g 69) :: (g 70) :: (g 71) :: (g 72) :: (g 73) :: (g 74) :: (g 75) :: (g 76) :: (g 77) :: (g 78) :: (g 79) :: (g 80) :: (g 81) :: (g 82) :: (g 83) :: (g 84) :: (g 85) :: (g 86) :: (g 87) :: (g 88) :: (g 89) :: (g 90) :: (g 91) :: (g 92) :: (g 93) :: (g 94) :: (g 95) :: (g 96) :: (g 97) :: (g 98) :: (g 99) :: (g 100) :: (g 101) :: (g 102) :: (g 103) :: (g 104) :: (g 105) :: (g 106) :: (g 107) :: (g 108) :: (g 109) :: (g 110) :: (g 111) :: (g 112) :: (g 113) :: (g 114) :: (g 115) :: (g 116) :: (g 117) :: (g 118) :: (g 119) :: (g 120) :: (g 121) :: (g 122) :: (g 123) :: (g 124) :: (g 125) :: (g 126) :: (g 127) :: (g 128) :: (g 129) :: (g 130) :: (g 131) :: (g 132) :: (g 133) :: (g 134) :: (g 135) :: (g 136) :: (g 137) :: (g 138) :: (g 139) :: (g 140) :: (g 141) :: (g 142) :: (g 143) :: (g 144) :: (g 145) :: (g 146) :: (g 147) :: (g 148) :: (g 149) :: (g 150) :: (g 151) :: (g 152) :: (g 153) :: (g 154) :: (g 155) :: (g 156) :: (g 157) :: (g 158) :: (g 159) :: (g 160) :: (g 161) :: (g 162) :: (g 163) :: (g 164) :: (g 165) :: (g 166) :: (g 167) :: (g 168) :: (g 169) :: (g 170) :: (g 171) :: (g 172) :: (g 173) :: (g 174) :: (g 175) :: (g 176) :: (g 177) :: (g 178) :: (g 179) :: (g 180) :: (g 181) :: (g 182) :: (g 183) :: (g 184) :: (g 185) :: (g 186) :: (g 187) :: (g 188) :: (g 189) :: (g 190) :: (g 191) :: (g 192) :: (g 193) :: (g 194) :: (g 195) :: (g 196) :: (g 197) :: (g 198) :: (g 199) :: (g 200) :: (g 201) :: []))) (fun W' => W' = W5) (fun hk => ?_) (fun g W' e' => ?_)
    · cases sm
      · ((repeat (first | refine gt_seq ?_ | refine gt_block ?_ | refine gt_skip ?_ | refine gt_inBlock ?_ | refine gt_label ?_ | refine gt_scope ?_ | refine gt_inScope ?_ | refine gt_exit rfl ?_ | (first | refine gt_cond_t rfl ?_ | refine gt_cond_f rfl ?_))); (refine gt_region ?_; simp only [List.size_toArray, List.length_cons, List.length_nil, Nat.reduceAdd, Nat.zero_add, List.range, List.range.loop]); (repeat (first | (refine gt_op rfl (by rfl) (by rfl) (by decide) (fun dd K hK => ?_); go_simp; refine hK _ _ ?_; clear hK K; (try walk_nrm); (try simp only [at_at', alloc_at', setCell_at']); refine Gt.at ?_ _) | (refine gt_unwanted rfl (by rfl) ?_; try walk_nrm))); refine gt_region_end ?_)
        exact hk _ _ rfl rfl
      · ((repeat (first | refine gt_seq ?_ | refine gt_block ?_ | refine gt_skip ?_ | refine gt_inBlock ?_ | refine gt_label ?_ | refine gt_scope ?_ | refine gt_inScope ?_ | refine gt_exit rfl ?_ | (first | refine gt_cond_t rfl ?_ | refine gt_cond_f rfl ?_))); (refine gt_region ?_; simp only [List.size_toArray, List.length_cons, List.length_nil, Nat.reduceAdd, Nat.zero_add, List.range, List.range.loop]); (repeat (first | (refine gt_op rfl (by rfl) (by rfl) (by decide) (fun dd K hK => ?_); go_simp; refine hK _ _ ?_; clear hK K; (try walk_nrm); (try simp only [at_at', alloc_at', setCell_at']); refine Gt.at ?_ _) | (refine gt_unwanted rfl (by rfl) ?_; try walk_nrm))); refine gt_region_end ?_)
        exact hk _ _ rfl rfl
    subst W'
    try dsimp only
    generalize hsv : (sm || v) = sv at *
    (repeat (first | (first | refine gt_seq ?_ | refine gt_block ?_ | refine gt_region_end ?_ | refine gt_skip ?_ | refine gt_inBlock ?_ | refine gt_label ?_ | refine gt_scope ?_ | refine gt_inScope ?_ | refine gt_exit rfl ?_) | (refine gt_region ?_; simp only [List.size_toArray, List.length_cons, List.length_nil, Nat.reduceAdd, Nat.zero_add, List.range, List.range.loop]) | (refine gt_op rfl (by rfl) (by rfl) (by decide) (fun dd K hK => ?_); go_simp; refine hK _ _ ?_; clear hK K; (try walk_nrm); (try simp only [at_at', alloc_at', setCell_at']); refine Gt.at ?_ _) | (refine gt_unwanted rfl (by rfl) ?_; try walk_nrm) | (first | refine gt_cond_t rfl ?_ | refine gt_cond_f rfl ?_)))
    refine gt_loopA (r := K) (fun (q : Nat) g => (List.toArray (.int .i64 (M : Int) :: .int .i64 (K : Int) :: .slice ao len cap :: (g 3) :: (g 4) :: (g 5) :: .bool false :: .pointer (some ⟨w.heap.size, 0, none⟩) :: .pointer (some ⟨tick + 1, 0, none⟩) :: lv :: .slice (some ⟨onb, 0, none⟩) M M :: .bool sv :: .int .i64 (i : Int) :: .pointer (some ⟨(R' i).p, 0, none⟩) :: (g 14) :: .int .i64 (q : Int) :: (g 16) :: (g 17) :: (g 18) :: (g 19) :: (g 20) :: (g 21) :: (g 22) :: (g 23) :: (g 24) :: (g 25) :: (g 26) :: (g 27) :: (g 28) :: (g 29) :: (g 30) :: (g 31) :: (g 32) :: (g 33) :: (g 34) :: (g 35) :: (g 36) :: (g 37) :: (g 38) :: (g 39) :: (g 40) :: (g 41) :: (g 42) :: (g 43) :: (g 44) :: (g 45) :: (g 46) :: (g 47) :: (g 48) :: (g 49) :: (g 50) :: (g 51) :: (g 52) :: (g 53) :: (g 54) :: (g 55) :: (g 56) :: (g 57) :: (g 58) :: (g 59) :: (g 60) :: (g 61) :: (g 62) :: (g 63) :: (g 64) :: (g 65) :: (g 66) :: (g 67) :: (g 68) :: (g 69) :: (g 70) :: (g 71) :: (g 72) :: (g 73) :: (g 74) :: (g 75) :: (g 76) :: (g 77) :: (g 78) :: (g 79) :: (g 80) :: (g 81) :: (g 82) :: (g 83) :: (g 84) :: (g 85) :: (g 86) :: (g 87) :: (g 88) :: (g 89) :: (g 90) :: (g 91) :: (g 92) :: (g 93) :: (g 94) :: (g 95) :: (g 96) :: (g 97) :: (g 98) :: (g 99) :: (g 100) :: (g 101) :: (g 102) :: (g 103) :: (g 104) :: (g 105) :: (g 106) :: (g 107) :: (g 108) :: (g 109) :: (g 110) :: (g 111) :: (g 112) :: (g 113) :: (g 114) :: (g 115) :: (g 116) :: (g 117) :: (g 118) :: (g 119) :: (g 120) :: (g 121) :: (g 122) :: (g 123) :: (g 124) :: (g 125) :: (g 126) :: (g 127) :: (g 128) :: (g 129) :: (g 130) :: (g 131) :: (g 132) :: (g 133) :: (g 134) :: (g 135) :: (g 136) :: (g 137) :: (g 138) :: (g 139) :: (g 140) :: (g 141) :: (g 142) :: (g 143) :: (g 144) :: (g 145) :: (g 146) :: (g 147) :: (g 148) :: (g 149) :: (g 150) :: (g 151) :: (g 152) :: (g 153) :: (g 154) :: (g 155) :: (g 156) :: (g 157) :: (g 158) :: (g 159) :: (g 160) :: (g 161) :: (g 162) :: (g 163) :: (g 164) :: (g 165) :: (g 166) :: (g 167) :: (g 168) :: (g 169) :: (g 170) :: (g 171) :: (g 172) :: (g 173) :: (g 174) :: (g 175) :: (g 176) :: (g 177) :: (g 178) :: (g 179) :: (g 180) :: (g 181) :: (g 182) :: (g 183) :: (g 184) :: (g 185) :: (g 186) :: (g 187) :: (g 188) :: (g 189) :: (g 190) :: (g 191) :: (g 192) :: (g 193) :: (g 194) :: (g 195) :: (g 196) :: (g 197) :: (g 198) :: (g 199) :: (g 200) :: (g 201) :: []))) (fun r q W => q + r = K ∧ (v = false → q = 0) ∧ ∃ bv, Mid w w.heap.size tick onb M K (fun j => decide (len ≤ j) || B j) i q lv W R' bv)
      0 ⟨by omega, fun _ => rfl, _, hm'.out⟩ rfl ?_
    clear o1 hm' hcur5 hcx5
    rintro rq q g2 W6 ⟨hrq, hv0, bv6, hM6'⟩ ihq
    have ihq' := Lib.hid ihq
    clear ihq
    have hMid6 := Lib.hid hM6'
    obtain ⟨cur6, hcur6, hcx6⟩ := hM6'.onA
    have o1 : W6.cell? ⟨onb, i, none⟩ = some (.bool v) := cell?_of hcur6 (by rw [hcx6 i hi, if_pos (Nat.lt_succ_self i), hv])
    clear hM6' hcur6 hcx6
    try dsimp only
    have hv0' := Lib.hid hv0
    clear hv0
    by_cases hql : (q : Int) < (K : Int)
    · have hq1 : IntKind.i64.wrap ((q : Int) + 1) = q + 1 := wraps_i64 _ (by omega) (by omega)
      have hq2 : IntKind.i64.wrap (1000 * (i : Int) + (q : Int)) = 1000 * i + q := wraps_i64 _ (by omega) (by omega)
      cases v
      · have hq0 : q = 0 := hv0'.out rfl
        subst hq0
        have hK0 : 0 < K := by omega
        (repeat (first | (first | refine gt_seq ?_ | refine gt_block ?_ | refine gt_region_end ?_ | refine gt_skip ?_ | refine gt_inBlock ?_ | refine gt_label ?_ | refine gt_scope ?_ | refine gt_inScope ?_ | refine gt_exit rfl ?_) | (refine gt_region ?_; simp only [List.size_toArray, List.length_cons, List.length_nil, Nat.reduceAdd, Nat.zero_add, List.range, List.range.loop]) | (refine gt_op rfl (by rfl) (by rfl) (by decide) (fun dd K hK => ?_); go_simp; refine hK _ _ ?_; clear hK K; (try walk_nrm); (try simp only [at_at', alloc_at', setCell_at']); refine Gt.at ?_ _) | (refine gt_unwanted rfl (by rfl) ?_; try walk_nrm) | (first | refine gt_cond_t rfl ?_ | refine gt_cond_f rfl ?_)))
        have hob6 : onb < W6.heap.size := by obtain ⟨cc, hh, _⟩ := hMid6.out.onA; exact lt_of_heap hh
        refine gt_append rfl (by rfl) (by decide) rfl Try.underlying71 (size := 3) (bytes := 24) (by kernel_rfl) (by decide) (v := lv) (k := i) (xs := caseRows R' i) rfl (base := onb + 1) (hMid6.out.own.alloc _) (ad := ⟨W6.heap.size, 0, none⟩) (m := 1) (c := 1) (news := [.pointer (some ⟨(R' i).p, 0, none⟩), .bool false, .int .i64 0]) rfl rfl (by intro j u hj; rw [addr_add, Nat.zero_add]; exact cell?_of (heap_alloc_new' _ _) (by simpa using hj)) (by intro u hu; simp at hu; rcases hu with rfl | rfl | rfl <;> rfl) (by unfold maxLen; omega) (by omega) (by rw [heap_alloc_size']; omega) fun lv' W8 hown hg hat => ?_
        have hF8 := hMid6.out.fill (by first | (simp [hv]; done) | (have h0 := hv0'.out; simp [hv] at h0 ⊢; omega) | (simp [hv]; omega)) h2s hbl (by omega) hob6 hown hg hat
        clear hown hg hat o1
        walk_nrm
        (repeat (first | (first | refine gt_seq ?_ | refine gt_block ?_ | refine gt_region_end ?_ | refine gt_skip ?_ | refine gt_inBlock ?_ | refine gt_label ?_ | refine gt_scope ?_ | refine gt_inScope ?_ | refine gt_exit rfl ?_) | (refine gt_region ?_; simp only [List.size_toArray, List.length_cons, List.length_nil, Nat.reduceAdd, Nat.zero_add, List.range, List.range.loop]) | (refine gt_op rfl (by rfl) (by rfl) (by decide) (fun dd K hK => ?_); go_simp; refine hK _ _ ?_; clear hK K; (try walk_nrm); (try simp only [at_at', alloc_at', setCell_at']); refine Gt.at ?_ _) | (refine gt_unwanted rfl (by rfl) ?_; try walk_nrm) | (first | refine gt_cond_t rfl ?_ | refine gt_cond_f rfl ?_)))
        refine ih'.out (r - 1) (i + 1, lv', sv) _ _ (by omega) ?_ ?_
        · exact ⟨by omega, by rw [← hsv, List.range_succ, List.any_append, ← hsm'.out]; simp [hv], _, _, hF8⟩
        · rfl
      · have hsend := hMid6.out.pipes.send (i := i) (Nat.lt_succ_self i) (by simp [hR64]; omega) (by simp; omega) (v := 1000 * (i : Int) + q) (by simp [itc])
        (repeat (first | (first | refine gt_seq ?_ | refine gt_block ?_ | refine gt_region_end ?_ | refine gt_skip ?_ | refine gt_inBlock ?_ | refine gt_label ?_ | refine gt_scope ?_ | refine gt_inScope ?_ | refine gt_exit rfl ?_) | (refine gt_region ?_; simp only [List.size_toArray, List.length_cons, List.length_nil, Nat.reduceAdd, Nat.zero_add, List.range, List.range.loop]) | (refine gt_op rfl (by rfl) (by rfl) (by decide) (fun dd K hK => ?_); go_simp; refine hK _ _ ?_; clear hK K; (try walk_nrm); (try simp only [at_at', alloc_at', setCell_at']); refine Gt.at ?_ _) | (refine gt_unwanted rfl (by rfl) ?_; try walk_nrm) | (first | refine gt_cond_t rfl ?_ | refine gt_cond_f rfl ?_)))
        refine gt_callf rfl (by rfl) (by decide) rfl rfl Try.func37 (by rfl) rfl (hsend) (by simp [Act.eval]) ?_
        clear hsend o1
        rintro _ W7 ⟨rfl, ⟨bv7, hP7⟩, hk7⟩
        have hM7 := hMid6.out.sent h2s hbl (Nat.le_refl _) (by simpa using hP7) hk7
        clear hP7 hk7
        walk_nrm
        (repeat (first | (first | refine gt_seq ?_ | refine gt_block ?_ | refine gt_region_end ?_ | refine gt_skip ?_ | refine gt_inBlock ?_ | refine gt_label ?_ | refine gt_scope ?_ | refine gt_inScope ?_ | refine gt_exit rfl ?_) | (refine gt_region ?_; simp only [List.size_toArray, List.length_cons, List.length_nil, Nat.reduceAdd, Nat.zero_add, List.range, List.range.loop]) | (refine gt_op rfl (by rfl) (by rfl) (by decide) (fun dd K hK => ?_); go_simp; refine hK _ _ ?_; clear hK K; (try walk_nrm); (try simp only [at_at', alloc_at', setCell_at']); refine Gt.at ?_ _) | (refine gt_unwanted rfl (by rfl) ?_; try walk_nrm) | (first | refine gt_cond_t rfl ?_ | refine gt_cond_f rfl ?_)))
        refine ihq'.out (rq - 1) (q + 1) _ _ (by omega) ?_ ?_
        · exact ⟨by omega, fun h => (by cases h), _, hM7⟩
        · rfl
    · cases v
      · (repeat (first | (first | refine gt_seq ?_ | refine gt_block ?_ | refine gt_region_end ?_ | refine gt_skip ?_ | refine gt_inBlock ?_ | refine gt_label ?_ | refine gt_scope ?_ | refine gt_inScope ?_ | refine gt_exit rfl ?_) | (refine gt_region ?_; simp only [List.size_toArray, List.length_cons, List.length_nil, Nat.reduceAdd, Nat.zero_add, List.range, List.range.loop]) | (refine gt_op rfl (by rfl) (by rfl) (by decide) (fun dd K hK => ?_); go_simp; refine hK _ _ ?_; clear hK K; (try walk_nrm); (try simp only [at_at', alloc_at', setCell_at']); refine Gt.at ?_ _) | (refine gt_unwanted rfl (by rfl) ?_; try walk_nrm) | (first | refine gt_cond_t rfl ?_ | refine gt_cond_f rfl ?_)))
        have hob6 : onb < W6.heap.size := by obtain ⟨cc, hh, _⟩ := hMid6.out.onA; exact lt_of_heap hh
        refine gt_append rfl (by rfl) (by decide) rfl Try.underlying71 (size := 3) (bytes := 24) (by kernel_rfl) (by decide) (v := lv) (k := i) (xs := caseRows R' i) rfl (base := onb + 1) (hMid6.out.own.alloc _) (ad := ⟨W6.heap.size, 0, none⟩) (m := 1) (c := 1) (news := [.pointer (some ⟨(R' i).p, 0, none⟩), .bool false, .int .i64 0]) rfl rfl (by intro j u hj; rw [addr_add, Nat.zero_add]; exact cell?_of (heap_alloc_new' _ _) (by simpa using hj)) (by intro u hu; simp at hu; rcases hu with rfl | rfl | rfl <;> rfl) (by unfold maxLen; omega) (by omega) (by rw [heap_alloc_size']; omega) fun lv' W8 hown hg hat => ?_
        have hF8 := hMid6.out.fill (by first | (simp [hv]; done) | (have h0 := hv0'.out; simp [hv] at h0 ⊢; omega) | (simp [hv]; omega)) h2s hbl (by omega) hob6 hown hg hat
        clear hown hg hat o1
        walk_nrm
        (repeat (first | (first | refine gt_seq ?_ | refine gt_block ?_ | refine gt_region_end ?_ | refine gt_skip ?_ | refine gt_inBlock ?_ | refine gt_label ?_ | refine gt_scope ?_ | refine gt_inScope ?_ | refine gt_exit rfl ?_) | (refine gt_region ?_; simp only [List.size_toArray, List.length_cons, List.length_nil, Nat.reduceAdd, Nat.zero_add, List.range, List.range.loop]) | (refine gt_op rfl (by rfl) (by rfl) (by decide) (fun dd K hK => ?_); go_simp; refine hK _ _ ?_; clear hK K; (try walk_nrm); (try simp only [at_at', alloc_at', setCell_at']); refine Gt.at ?_ _) | (refine gt_unwanted rfl (by rfl) ?_; try walk_nrm) | (first | refine gt_cond_t rfl ?_ | refine gt_cond_f rfl ?_)))
        refine ih'.out (r - 1) (i + 1, lv', sv) _ _ (by omega) ?_ ?_
        · exact ⟨by omega, by rw [← hsv, List.range_succ, List.any_append, ← hsm'.out]; simp [hv], _, _, hF8⟩
        · rfl
      · (repeat (first | (first | refine gt_seq ?_ | refine gt_block ?_ | refine gt_region_end ?_ | refine gt_skip ?_ | refine gt_inBlock ?_ | refine gt_label ?_ | refine gt_scope ?_ | refine gt_inScope ?_ | refine gt_exit rfl ?_) | (refine gt_region ?_; simp only [List.size_toArray, List.length_cons, List.length_nil, Nat.reduceAdd, Nat.zero_add, List.range, List.range.loop]) | (refine gt_op rfl (by rfl) (by rfl) (by decide) (fun dd K hK => ?_); go_simp; refine hK _ _ ?_; clear hK K; (try walk_nrm); (try simp only [at_at', alloc_at', setCell_at']); refine Gt.at ?_ _) | (refine gt_unwanted rfl (by rfl) ?_; try walk_nrm) | (first | refine gt_cond_t rfl ?_ | refine gt_cond_f rfl ?_)))
        have hob6 : onb < W6.heap.size := by obtain ⟨cc, hh, _⟩ := hMid6.out.onA; exact lt_of_heap hh
        refine gt_append rfl (by rfl) (by decide) rfl Try.underlying71 (size := 3) (bytes := 24) (by kernel_rfl) (by decide) (v := lv) (k := i) (xs := caseRows R' i) rfl (base := onb + 1) (hMid6.out.own.alloc _) (ad := ⟨W6.heap.size, 0, none⟩) (m := 1) (c := 1) (news := [.pointer (some ⟨(R' i).p, 0, none⟩), .bool false, .int .i64 0]) rfl rfl (by intro j u hj; rw [addr_add, Nat.zero_add]; exact cell?_of (heap_alloc_new' _ _) (by simpa using hj)) (by intro u hu; simp at hu; rcases hu with rfl | rfl | rfl <;> rfl) (by unfold maxLen; omega) (by omega) (by rw [heap_alloc_size']; omega) fun lv' W8 hown hg hat => ?_
        have hF8 := hMid6.out.fill (by first | (simp [hv]; done) | (have h0 := hv0'.out; simp [hv] at h0 ⊢; omega) | (simp [hv]; omega)) h2s hbl (by omega) hob6 hown hg hat
        clear hown hg hat o1
        walk_nrm
        (repeat (first | (first | refine gt_seq ?_ | refine gt_block ?_ | refine gt_region_end ?_ | refine gt_skip ?_ | refine gt_inBlock ?_ | refine gt_label ?_ | refine gt_scope ?_ | refine gt_inScope ?_ | refine gt_exit rfl ?_) | (refine gt_region ?_; simp only [List.size_toArray, List.length_cons, List.length_nil, Nat.reduceAdd, Nat.zero_add, List.range, List.range.loop]) | (refine gt_op rfl (by rfl) (by rfl) (by decide) (fun dd K hK => ?_); go_simp; refine hK _ _ ?_; clear hK K; (try walk_nrm); (try simp only [at_at', alloc_at', setCell_at']); refine Gt.at ?_ _) | (refine gt_unwanted rfl (by rfl) ?_; try walk_nrm) | (first | refine gt_cond_t rfl ?_ | refine gt_cond_f rfl ?_)))
        refine ih'.out (r - 1) (i + 1, lv', sv) _ _ (by omega) ?_ ?_
        · exact ⟨by omega, by rw [← hsv, List.range_succ, List.any_append, ← hsm'.out]; simp [hv], _, _, hF8⟩
        · rfl
  · have hiM : M = i := by omega
    subst hiM
    clear hlt ih'
    obtain ⟨lb, lcap, hlv, hrow⟩ := Fill.row (i := M) (lv := lv) hF'.out hM1
    subst hlv
    (repeat (first | (first | refine gt_seq ?_ | refine gt_block ?_ | refine gt_region_end ?_ | refine gt_skip ?_ | refine gt_inBlock ?_ | refine gt_label ?_ | refine gt_scope ?_ | refine gt_inScope ?_ | refine gt_exit rfl ?_) | (refine gt_region ?_; simp only [List.size_toArray, List.length_cons, List.length_nil, Nat.reduceAdd, Nat.zero_add, List.range, List.range.loop]) | (refine gt_op rfl (by rfl) (by rfl) (by decide) (fun dd K hK => ?_); go_simp; refine hK _ _ ?_; clear hK K; (try walk_nrm); (try simp only [at_at', alloc_at', setCell_at']); refine Gt.at ?_ _) | (refine gt_unwanted rfl (by rfl) ?_; try walk_nrm) | (first | refine gt_cond_t rfl ?_ | refine gt_cond_f rfl ?_)))
    refine gt_make rfl (by rfl) (by decide) rfl (n := M) rfl rfl Try.underlying24 (z := .int .i64 0) (by kernel_rfl) (by kernel_rfl) rfl (by omega) fun cur1 hc1 hz1 => ?_
    have hkA : Keeps W (W.alloc (.cells cur1 3 (0, 0))) (fun _ => False) := Keeps.alloc _ _ _
    have hsA : (W.alloc (.cells cur1 3 (0, 0))).heap[W.heap.size]? = some (.cells cur1 3 (0, 0)) := heap_alloc_new' _ _
    have hzA : (W.alloc (.cells cur1 3 (0, 0))).heap.size = W.heap.size + 1 := heap_alloc_size' _ _
    generalize W.alloc (.cells cur1 3 (0, 0)) = W8 at *
    walk_nrm
    (repeat (first | (first | refine gt_seq ?_ | refine gt_block ?_ | refine gt_region_end ?_ | refine gt_skip ?_ | refine gt_inBlock ?_ | refine gt_label ?_ | refine gt_scope ?_ | refine gt_inScope ?_ | refine gt_exit rfl ?_) | (refine gt_region ?_; simp only [List.size_toArray, List.length_cons, List.length_nil, Nat.reduceAdd, Nat.zero_add, List.range, List.range.loop]) | (refine gt_op rfl (by rfl) (by rfl) (by decide) (fun dd K hK => ?_); go_simp; refine hK _ _ ?_; clear hK K; (try walk_nrm); (try simp only [at_at', alloc_at', setCell_at']); refine Gt.at ?_ _) | (refine gt_unwanted rfl (by rfl) ?_; try walk_nrm) | (first | refine gt_cond_t rfl ?_ | refine gt_cond_f rfl ?_)))
    refine gt_make rfl (by rfl) (by decide) rfl (n := M) rfl rfl Try.underlying22 (z := .int .i64 0) (by kernel_rfl) (by kernel_rfl) rfl (by omega) fun cur2 hc2 hz2 => ?_
    rw [hzA]
    have hkB : Keeps W (W8.alloc (.cells cur2 2 (0, 0))) (fun _ => False) := hkA.allocNew _
    have hsB : (W8.alloc (.cells cur2 2 (0, 0))).heap[W.heap.size]? = some (.cells cur1 3 (0, 0)) := heap_alloc_old' hsA
    have hnB : (W8.alloc (.cells cur2 2 (0, 0))).heap[W.heap.size + 1]? = some (.cells cur2 2 (0, 0)) := by rw [← hzA]; exact heap_alloc_new' _ _
    generalize W8.alloc (.cells cur2 2 (0, 0)) = W9 at *
    have hrace : Race w w.heap.size tick onb lb W.heap.size M K (fun j => decide (len ≤ j) || B j) R 0 W9 (fun _ => 0) (fun j => if (decide (len ≤ j) || B j) then K else 0) bv (fun _ => 0) := by
      have F := hF'.out
      obtain ⟨cur, hc, hx⟩ := F.onA
      have hob : onb < W.heap.size := lt_of_heap hc
      obtain ⟨cr, hcr, _⟩ := id hrow
      have hlbs := lt_of_heap hcr
      refine ⟨F.keeps.trans hkB, ((F.pipes.kept0 hkB).bench (hkB.heap F.tickC fun h => h) (hkB.heap F.cO fun h => h) (hrow.kept hkB fun h => h) (fun j hj => ⟨fun h => ?_, fun h => ?_, fun h => ?_⟩) (by omega)), fun _ _ => rfl, fun _ _ => ⟨Nat.le_refl _, fun _ => rfl⟩, ⟨cur, hkB.heap hc fun h => h, fun j hj => by rw [hx j hj, if_pos hj]⟩, ⟨cur1, hsB, fun j hj => hz1 j hj⟩, fun j hj => ⟨Nat.le_refl _, fun _ => Nat.zero_le _⟩, ⟨cur2, hnB, fun j hj => hz2 j hj⟩⟩
      · have := F.low j hj; have := h.1; omega
      · have := F.low j hj; have := h.1; omega
      · exact F.lvOut j hj lb rfl h
    have hlow := Lib.hid (fun j (hj : j < M) => hF'.out.low j hj)
    have hhi := Lib.hid (fun j (hj : j < M) => hF'.out.pipes.hiLe j hj)
    have hlbs : lb < W.heap.size := by obtain ⟨cr, hcr, _⟩ := hrow; exact lt_of_heap hcr
    have hobs : onb < W.heap.size := by obtain ⟨cr, hcr, _⟩ := hF'.out.onA; exact lt_of_heap hcr
    have hsm' := Lib.hid hsm
    clear hF' hrow hkA hsA hzA hkB hsB hnB hz1 hz2 hc1 hc2 hsm
    generalize W.heap.size = sb at *
    walk_nrm
    (repeat (first | (first | refine gt_seq ?_ | refine gt_block ?_ | refine gt_region_end ?_ | refine gt_skip ?_ | refine gt_inBlock ?_ | refine gt_label ?_ | refine gt_scope ?_ | refine gt_inScope ?_ | refine gt_exit rfl ?_) | (refine gt_region ?_; simp only [List.size_toArray, List.length_cons, List.length_nil, Nat.reduceAdd, Nat.zero_add, List.range, List.range.loop]) | (refine gt_op rfl (by rfl) (by rfl) (by decide) (fun dd K hK => ?_); go_simp; refine hK _ _ ?_; clear hK K; (try walk_nrm); (try simp only [at_at', alloc_at', setCell_at']); refine Gt.at ?_ _) | (refine gt_unwanted rfl (by rfl) ?_; try walk_nrm) | (first | refine gt_cond_t rfl ?_ | refine gt_cond_f rfl ?_)))
    refine gt_loopA (r := K) (fun (nn : Nat) g => (List.toArray (.int .i64 (M : Int) :: .int .i64 (K : Int) :: .slice ao len cap :: (g 3) :: (g 4) :: (g 5) :: .bool false :: .pointer (some ⟨w.heap.size, 0, none⟩) :: .pointer (some ⟨tick + 1, 0, none⟩) :: .slice (some ⟨lb, 0, none⟩) M lcap :: .slice (some ⟨onb, 0, none⟩) M M :: .bool sm :: (g 12) :: (g 13) :: (g 14) :: (g 15) :: .slice (some ⟨sb, 0, none⟩) M M :: .slice (some ⟨sb + 1, 0, none⟩) M M :: .int .i64 (nn : Int) :: (g 19) :: (g 20) :: (g 21) :: (g 22) :: (g 23) :: (g 24) :: (g 25) :: (g 26) :: (g 27) :: (g 28) :: (g 29) :: (g 30) :: (g 31) :: (g 32) :: (g 33) :: (g 34) :: (g 35) :: (g 36) :: (g 37) :: (g 38) :: (g 39) :: (g 40) :: (g 41) :: (g 42) :: (g 43) :: (g 44) :: (g 45) :: (g 46) :: (g 47) :: (g 48) :: (g 49) :: (g 50) :: (g 51) :: (g 52) :: (g 53) :: (g 54) :: (g 55) :: (g 56) :: (g 57) :: (g 58) :: (g 59) :: (g 60) :: (g 61) :: (g 62) :: (g 63) :: (g 64) :: (g 65) :: (g 66) :: (g 67) :: (g 68) :: (g 69) :: (g 70) :: (g 71) :: (g 72) :: (g 73) :: (g 74) :: (g 75) :: (g 76) :: (g 77) :: (g 78) :: (g 79) :: (g 80) :: (g 81) :: (g 82) :: (g 83) :: (g 84) :: (g 85) :: (g 86) :: (g 87) :: (g 88) :: (g 89) :: (g 90) :: (g 91) :: (g 92) :: (g 93) :: (g 94) :: (g 95) :: (g 96) :: (g 97) :: (g 98) :: (g 99) :: (g 100) :: (g 101) :: (g 102) :: (g 103) :: (g 104) :: (g 105) :: (g 106) :: (g 107) :: (g 108) :: (g 109) :: (g 110) :: (g 111) :: (g 112) :: (g 113) :: (g 114) :: (g 115) :: (g 116) :: (g 117) :: (g 118) :: (g 119) :: (g 120) :: (g 121) :: (g 122) :: (g 123) :: (g 124) :: (g 125) :: (g 126) :: (g 127) :: (g 128) :: (g 129) :: (g 130) :: (g 131) :: (g 132) :: (g 133) :: (g 134) :: (g 135) :: (g 136) :: (g 137) :: (g 138) :: (g 139) :: (g 140) :: (g 141) :: (g 142) :: (g 143) :: (g 144) :: (g 145) :: (g 146) :: (g 147) :: (g 148) :: (g 149) :: (g 150) :: (g 151) :: (g 152) :: (g 153) :: (g 154) :: (g 155) :: (g 156) :: (g 157) :: (g 158) :: (g 159) :: (g 160) :: (g 161) :: (g 162) :: (g 163) :: (g 164) :: (g 165) :: (g 166) :: (g 167) :: (g 168) :: (g 169) :: (g 170) :: (g 171) :: (g 172) :: (g 173) :: (g 174) :: (g 175) :: (g 176) :: (g 177) :: (g 178) :: (g 179) :: (g 180) :: (g 181) :: (g 182) :: (g 183) :: (g 184) :: (g 185) :: (g 186) :: (g 187) :: (g 188) :: (g 189) :: (g 190) :: (g 191) :: (g 192) :: (g 193) :: (g 194) :: (g 195) :: (g 196) :: (g 197) :: (g 198) :: (g 199) :: (g 200) :: (g 201) :: []))) (fun r nn W => nn + r = K ∧ ∃ h t bv sn, Race w w.heap.size tick onb lb sb M K (fun j => decide (len ≤ j) || B j) R nn W h t bv sn) 0 ⟨by omega, _, _, _, _, hrace⟩ rfl ?_
    clear hrace
    rintro r3 nn g3 W10 ⟨hr3, h, t, bv3, sn, hRace⟩ ih3
    have ih3' := Lib.hid ih3
    clear ih3
    have hRace' := Lib.hid hRace
    clear hRace
    try dsimp only
    by_cases hlt3 : (nn : Int) < (K : Int)
    · cases sm
      · skip
        have htry := try_T hRace'.out.bench (cap := lcap) hM1 (by omega) (by omega)
        (repeat (first | (first | refine gt_seq ?_ | refine gt_block ?_ | refine gt_region_end ?_ | refine gt_skip ?_ | refine gt_inBlock ?_ | refine gt_label ?_ | refine gt_scope ?_ | refine gt_inScope ?_ | refine gt_exit rfl ?_) | (refine gt_region ?_; simp only [List.size_toArray, List.length_cons, List.length_nil, Nat.reduceAdd, Nat.zero_add, List.range, List.range.loop]) | (refine gt_op rfl (by rfl) (by rfl) (by decide) (fun dd K hK => ?_); go_simp; refine hK _ _ ?_; clear hK K; (try walk_nrm); (try simp only [at_at', alloc_at', setCell_at']); refine Gt.at ?_ _) | (refine gt_unwanted rfl (by rfl) ?_; try walk_nrm) | (first | refine gt_cond_t rfl ?_ | refine gt_cond_f rfl ?_)))
        refine gt_callf rfl (by rfl) (by decide) rfl rfl Try.func39 (by rfl) rfl (htry) (by simp [Act.eval]) ?_
        clear htry
        rintro _ W20 ⟨hres, hk20⟩
        have hkF : Keeps w W20 (fun _ => False) := hRace'.out.keeps.above hk20 fun b hb => by
          rcases hb with x | x | ⟨j, hj, x⟩
          · omega
          · omega
          · obtain ⟨_, hPj, _⟩ := hRace'.out.bench.pipes j hj
            have := hPj.bellOut
            rw [hRace'.out.bench.bells j hj] at this
            have := x.1; omega
        have hkF' := Lib.hid hkF
        clear hkF hk20
        rcases hres with ⟨i, v, hi, hlt, rfl⟩ | ⟨hall, rfl⟩
        · walk_nrm
          (repeat (first | (first | refine gt_seq ?_ | refine gt_block ?_ | refine gt_region_end ?_ | refine gt_skip ?_ | refine gt_inBlock ?_ | refine gt_label ?_ | refine gt_scope ?_ | refine gt_inScope ?_ | refine gt_exit rfl ?_) | (refine gt_region ?_; simp only [List.size_toArray, List.length_cons, List.length_nil, Nat.reduceAdd, Nat.zero_add, List.range, List.range.loop]) | (refine gt_op rfl (by rfl) (by rfl) (by decide) (fun dd K hK => ?_); go_simp; refine hK _ _ ?_; clear hK K; (try walk_nrm); (try simp only [at_at', alloc_at', setCell_at']); refine Gt.at ?_ _) | (refine gt_unwanted rfl (by rfl) ?_; try walk_nrm) | (first | refine gt_cond_t rfl ?_ | refine gt_cond_f rfl ?_)))
          refine gt_callf rfl (by rfl) (by decide) rfl rfl Try.func40 (by rfl) rfl (works21_T W20) (by simp [Act.eval]) ?_
          rintro _ W21 ⟨rfl, hk21⟩
          walk_nrm
          (repeat (first | (first | refine gt_seq ?_ | refine gt_block ?_ | refine gt_region_end ?_ | refine gt_skip ?_ | refine gt_inBlock ?_ | refine gt_label ?_ | refine gt_scope ?_ | refine gt_inScope ?_ | refine gt_exit rfl ?_) | (refine gt_region ?_; simp only [List.size_toArray, List.length_cons, List.length_nil, Nat.reduceAdd, Nat.zero_add, List.range, List.range.loop]) | (refine gt_op rfl (by rfl) (by rfl) (by decide) (fun dd K hK => ?_); go_simp; refine hK _ _ ?_; clear hK K; (try walk_nrm); (try simp only [at_at', alloc_at', setCell_at']); refine Gt.at ?_ _) | (refine gt_unwanted rfl (by rfl) ?_; try walk_nrm) | (first | refine gt_cond_t rfl ?_ | refine gt_cond_f rfl ?_)))
          exact hfin'.out _ _ _ rfl rfl (hkF'.out.trans hk21)
        · clear hall
          walk_nrm
          (repeat (first | (first | refine gt_seq ?_ | refine gt_block ?_ | refine gt_region_end ?_ | refine gt_skip ?_ | refine gt_inBlock ?_ | refine gt_label ?_ | refine gt_scope ?_ | refine gt_inScope ?_ | refine gt_exit rfl ?_) | (refine gt_region ?_; simp only [List.size_toArray, List.length_cons, List.length_nil, Nat.reduceAdd, Nat.zero_add, List.range, List.range.loop]) | (refine gt_op rfl (by rfl) (by rfl) (by decide) (fun dd K hK => ?_); go_simp; refine hK _ _ ?_; clear hK K; (try walk_nrm); (try simp only [at_at', alloc_at', setCell_at']); refine Gt.at ?_ _) | (refine gt_unwanted rfl (by rfl) ?_; try walk_nrm) | (first | refine gt_cond_t rfl ?_ | refine gt_cond_f rfl ?_)))
          refine gt_callf rfl (by rfl) (by decide) rfl rfl Try.func40 (by rfl) rfl (works21_T W20) (by simp [Act.eval]) ?_
          rintro _ W21 ⟨rfl, hk21⟩
          walk_nrm
          (repeat (first | (first | refine gt_seq ?_ | refine gt_block ?_ | refine gt_region_end ?_ | refine gt_skip ?_ | refine gt_inBlock ?_ | refine gt_label ?_ | refine gt_scope ?_ | refine gt_inScope ?_ | refine gt_exit rfl ?_) | (refine gt_region ?_; simp only [List.size_toArray, List.length_cons, List.length_nil, Nat.reduceAdd, Nat.zero_add, List.range, List.range.loop]) | (refine gt_op rfl (by rfl) (by rfl) (by decide) (fun dd K hK => ?_); go_simp; refine hK _ _ ?_; clear hK K; (try walk_nrm); (try simp only [at_at', alloc_at', setCell_at']); refine Gt.at ?_ _) | (refine gt_unwanted rfl (by rfl) ?_; try walk_nrm) | (first | refine gt_cond_t rfl ?_ | refine gt_cond_f rfl ?_)))
          exact hfin'.out _ _ _ rfl rfl (hkF'.out.trans hk21)
      · obtain ⟨j0, hj0, hon0⟩ : ∃ j0, j0 < M ∧ (decide (len ≤ j0) || B j0) = true := by
          have := hsm'.out
          simp only at this
          obtain ⟨j0, h1, h2⟩ := List.any_eq_true.1 this.symm
          exact ⟨j0, List.mem_range.1 h1, h2⟩
        have hsel := select_T hRace'.out.bench (cap := lcap) hM1 (by omega) (by omega) hj0 (by rw [hRace'.out.tt j0 hj0, hon0]; have := (hRace'.out.hh j0 hj0).1; simp; omega)
        (repeat (first | (first | refine gt_seq ?_ | refine gt_block ?_ | refine gt_region_end ?_ | refine gt_skip ?_ | refine gt_inBlock ?_ | refine gt_label ?_ | refine gt_scope ?_ | refine gt_inScope ?_ | refine gt_exit rfl ?_) | (refine gt_region ?_; simp only [List.size_toArray, List.length_cons, List.length_nil, Nat.reduceAdd, Nat.zero_add, List.range, List.range.loop]) | (refine gt_op rfl (by rfl) (by rfl) (by decide) (fun dd K hK => ?_); go_simp; refine hK _ _ ?_; clear hK K; (try walk_nrm); (try simp only [at_at', alloc_at', setCell_at']); refine Gt.at ?_ _) | (refine gt_unwanted rfl (by rfl) ?_; try walk_nrm) | (first | refine gt_cond_t rfl ?_ | refine gt_cond_f rfl ?_)))
        refine gt_callf rfl (by rfl) (by decide) rfl rfl Try.func38 (by rfl) rfl (hsel) (by simp [Act.eval]) ?_
        clear hsel
        rintro _ W11 ⟨i, d, hi, hlt, hd, hid, hpast, rfl, ⟨bv11, hB11⟩, hk11⟩
        have hpast' := Lib.hid hpast
        have hid' := Lib.hid hid
        have hB11' := Lib.hid hB11
        clear hpast hid hB11
        have honi : (decide (len ≤ i) || B i) = true := by
          cases hx : (decide (len ≤ i) || B i) with
          | true => rfl
          | false => rw [hRace'.out.tt i hi, hx] at hlt; simp at hlt
        have hS : ∀ b, (b = tick ∨ b = w.heap.size ∨ ∃ j, j < M ∧ (R j).own b) → b ≠ onb ∧ b < sb := by
          intro b hb
          rcases hb with x | x | ⟨j, hj, x⟩
          · omega
          · omega
          · have := hlow.out j hj; have := hhi.out j hj; have := x.1; have := x.2; omega
        obtain ⟨curo, hco, hxo⟩ := hRace'.out.onA
        obtain ⟨curs, hcs, hxs⟩ := hRace'.out.snA
        obtain ⟨curn, hcn, hxn⟩ := hRace'.out.nxA
        have hco' := hk11.heap hco fun x => (hS _ x).1 rfl
        have hcs' := hk11.heap hcs fun x => by have := (hS _ x).2; omega
        have hcn' := hk11.heap hcn fun x => by have := (hS _ x).2; omega
        have hkW : Keeps w W11 (fun _ => False) := hRace'.out.keeps.above hk11 fun b hb => by
          rcases hb with x | x | ⟨j, hj, x⟩
          · omega
          · omega
          · have := hRace'.out.bench.hiLe j hj
            obtain ⟨_, hPj, _⟩ := hRace'.out.bench.pipes j hj
            have := hPj.bellOut
            rw [hRace'.out.bench.bells j hj] at this
            have := x.1; omega
        have o1 : W11.cell? ⟨onb, i, none⟩ = some (.bool true) := cell?_of hco' (by rw [hxo i hi, honi])
        have n1 : W11.cell? ⟨sb + 1, i, none⟩ = some (.int .i64 (h i : Int)) := cell?_of hcn' (hxn i hi)
        have n2 : W11.frozen? ⟨sb + 1, i, none⟩ = false := frozen?_of hcn'
        have hhi' : h i ≤ nn := (hRace'.out.hh i hi).1
        have hitc : itc i (h i) = 1000 * (i : Int) + h i := rfl
        have hw1 : IntKind.i64.wrap (1000 * (i : Int)) = 1000 * i := wraps_i64 _ (by omega) (by omega)
        have hw2 : IntKind.i64.wrap (1000 * (i : Int) + (h i : Int)) = 1000 * i + h i := wraps_i64 _ (by omega) (by omega)
        have hw3 : IntKind.i64.wrap ((h i : Int) + 1) = h i + 1 := wraps_i64 _ (by omega) (by omega)
        have hiM : (i : Int) < (M : Int) := by omega
        have hiM2 : ¬ ((M : Int) ≤ (i : Int)) := by omega
        have hi0 : ¬ ((i : Int) < 0) := by omega
        have hxo' := Lib.hid hxo
        have hxs' := Lib.hid hxs
        have hxn' := Lib.hid hxn
        clear hxo hxs hxn hS hk11 hco hcs hcn
        walk_nrm
        (repeat (first | (first | refine gt_seq ?_ | refine gt_block ?_ | refine gt_region_end ?_ | refine gt_skip ?_ | refine gt_inBlock ?_ | refine gt_label ?_ | refine gt_scope ?_ | refine gt_inScope ?_ | refine gt_exit rfl ?_) | (refine gt_region ?_; simp only [List.size_toArray, List.length_cons, List.length_nil, Nat.reduceAdd, Nat.zero_add, List.range, List.range.loop]) | (refine gt_op rfl (by rfl) (by rfl) (by decide) (fun dd K hK => ?_); go_simp; refine hK _ _ ?_; clear hK K; (try walk_nrm); (try simp only [at_at', alloc_at', setCell_at']); refine Gt.at ?_ _) | (refine gt_unwanted rfl (by rfl) ?_; try walk_nrm) | (first | refine gt_cond_t rfl ?_ | refine gt_cond_f rfl ?_)))
        have hLap : Lap w w.heap.size tick onb lb sb M (fun j => decide (len ≤ j) || B j) R nn i 0 (W11.setCell ⟨sb + 1, i, none⟩ (.int .i64 ((h i : Int) + 1))) (fun j => if j = i then h i + 1 else h j) (fun j => if j = i then t i else t j) bv11 sn := by
          have hks := Keeps.set W11 (off := i) (.int .i64 ((h i : Int) + 1)) (S := fun b => b = sb + 1) (b := sb + 1) rfl
          refine ⟨hkW.above hks fun b hb => by omega, hB11'.out.keptOut hks fun b hb => ⟨by omega, by omega, by omega, by omega, fun j hj ho => by have := hhi.out j hj; have := ho.2; omega⟩, ⟨_, hks.heap hco' (by omega), hxo'.out⟩, ⟨_, hks.heap hcs' (by omega), fun j hj => ?_⟩, ⟨_, heap_set_self hcn' _, fun j hj => ?_⟩⟩
          · rw [if_neg (Nat.not_lt_zero j)]; exact hxs'.out j hj
          · by_cases e : i = j
            · subst e
              have hlt : i < curn.size := (Array.getElem?_eq_some_iff.1 (hxn'.out i hi)).1
              simp [hlt]
            · rw [Array.getElem?_setIfInBounds_ne e, hxn'.out j hj, if_neg (fun x => e x.symm)]
        clear hkW o1 n1 n2 hco' hcs' hcn' hxo' hxs' hxn' hw1 hw2 hw3 hiM2 hi0 hB11'
        refine gt_loopA (r := M) (fun (k : Nat) g => (List.toArray (.int .i64 (M : Int) :: .int .i64 (K : Int) :: .slice ao len cap :: (g 3) :: (g 4) :: (g 5) :: .bool false :: .pointer (some ⟨w.heap.size, 0, none⟩) :: .pointer (some ⟨tick + 1, 0, none⟩) :: .slice (some ⟨lb, 0, none⟩) M lcap :: .slice (some ⟨onb, 0, none⟩) M M :: .bool true :: (g 12) :: (g 13) :: (g 14) :: (g 15) :: .slice (some ⟨sb, 0, none⟩) M M :: .slice (some ⟨sb + 1, 0, none⟩) M M :: .int .i64 (nn : Int) :: .int .i64 (i : Int) :: (g 20) :: (g 21) :: (g 22) :: .int .i64 (k : Int) :: (g 24) :: (g 25) :: (g 26) :: (g 27) :: (g 28) :: (g 29) :: (g 30) :: (g 31) :: (g 32) :: (g 33) :: (g 34) :: (g 35) :: (g 36) :: (g 37) :: (g 38) :: (g 39) :: (g 40) :: (g 41) :: (g 42) :: (g 43) :: (g 44) :: (g 45) :: (g 46) :: (g 47) :: (g 48) :: (g 49) :: (g 50) :: (g 51) :: (g 52) :: (g 53) :: (g 54) :: (g 55) :: (g 56) :: (g 57) :: (g 58) :: (g 59) :: (g 60) :: (g 61) :: (g 62) :: (g 63) :: (g 64) :: (g 65) :: (g 66) :: (g 67) :: (g 68) :: (g 69) :: (g 70) :: (g 71) :: (g 72) :: (g 73) :: (g 74) :: (g 75) :: (g 76) :: (g 77) :: (g 78) :: (g 79) :: (g 80) :: (g 81) :: (g 82) :: (g 83) :: (g 84) :: (g 85) :: (g 86) :: (g 87) :: (g 88) :: (g 89) :: (g 90) :: (g 91) :: (g 92) :: (g 93) :: (g 94) :: (g 95) :: (g 96) :: (g 97) :: (g 98) :: (g 99) :: (g 100) :: (g 101) :: (g 102) :: (g 103) :: (g 104) :: (g 105) :: (g 106) :: (g 107) :: (g 108) :: (g 109) :: (g 110) :: (g 111) :: (g 112) :: (g 113) :: (g 114) :: (g 115) :: (g 116) :: (g 117) :: (g 118) :: (g 119) :: (g 120) :: (g 121) :: (g 122) :: (g 123) :: (g 124) :: (g 125) :: (g 126) :: (g 127) :: (g 128) :: (g 129) :: (g 130) :: (g 131) :: (g 132) :: (g 133) :: (g 134) :: (g 135) :: (g 136) :: (g 137) :: (g 138) :: (g 139) :: (g 140) :: (g 141) :: (g 142) :: (g 143) :: (g 144) :: (g 145) :: (g 146) :: (g 147) :: (g 148) :: (g 149) :: (g 150) :: (g 151) :: (g 152) :: (g 153) :: (g 154) :: (g 155) :: (g 156) :: (g 157) :: (g 158) :: (g 159) :: (g 160) :: (g 161) :: (g 162) :: (g 163) :: (g 164) :: (g 165) :: (g 166) :: (g 167) :: (g 168) :: (g 169) :: (g 170) :: (g 171) :: (g 172) :: (g 173) :: (g 174) :: (g 175) :: (g 176) :: (g 177) :: (g 178) :: (g 179) :: (g 180) :: (g 181) :: (g 182) :: (g 183) :: (g 184) :: (g 185) :: (g 186) :: (g 187) :: (g 188) :: (g 189) :: (g 190) :: (g 191) :: (g 192) :: (g 193) :: (g 194) :: (g 195) :: (g 196) :: (g 197) :: (g 198) :: (g 199) :: (g 200) :: (g 201) :: []))) (fun r k W => k + r = M ∧ Lap w w.heap.size tick onb lb sb M (fun j => decide (len ≤ j) || B j) R nn i k W (fun j => if j = i then h i + 1 else h j) (fun j => if j = i then t i else t j) bv11 sn) 0 ⟨by omega, hLap⟩ rfl ?_
        clear hLap
        rintro r4 k g4 W12 ⟨hr4, hLap⟩ ih4
        have ih4' := Lib.hid ih4
        have hLap' := Lib.hid hLap
        clear ih4 hLap
        try dsimp only
        by_cases hk4 : (k : Int) < (M : Int)
        · have hkM : k < M := by omega
          obtain ⟨cs4, hcs4, hxs4⟩ := hLap'.out.snA
          obtain ⟨co4, hco4, hxo4⟩ := hLap'.out.onA
          have s1 : W12.cell? ⟨sb, k, none⟩ = some (.int .i64 (sn k : Int)) := cell?_of hcs4 (by rw [hxs4 k hkM, if_neg (Nat.lt_irrefl k)])
          have s2 : W12.frozen? ⟨sb, k, none⟩ = false := frozen?_of hcs4
          have o1 : W12.cell? ⟨onb, k, none⟩ = some (.bool (decide (len ≤ k) || B k)) := cell?_of hco4 (hxo4 k hkM)
          have hsnk := hRace'.out.snn k hkM
          have hw1 : IntKind.i64.wrap ((sn k : Int) + 1) = sn k + 1 := wraps_i64 _ (by omega) (by omega)
          have hk1 : IntKind.i64.wrap ((k : Int) + 1) = k + 1 := wraps_i64 _ (by omega) (by omega)
          have hx' := Lib.hid (And.intro hxs4 hxo4)
          clear hxs4 hxo4
          have hsn' := Lib.hid hsnk
          clear hsnk
          have hsnM : (decide (len ≤ k) || B k) = true → k ≠ i → ((sn k : Int) + 1) < (M : Int) := fun hon hne => by
            have h1 := hsn'.out.2 hon
            have h0 : ¬ nn % M = k := fun x => by
              have hd0 : 0 < d := by
                rcases Nat.eq_zero_or_pos d with h0 | h0
                · have h3 := hid'.out; rw [h0, Nat.add_zero] at h3; exact absurd (x.symm.trans h3.symm) hne
                · exact h0
              have h2 := hpast'.out 0 hd0
              rw [Nat.add_zero, x] at h2
              have h3 := hRace'.out.tt k hkM
              simp only [hon, if_true] at h3
              have h4 := (hRace'.out.hh k hkM).1
              omega
            have h2 := mod_step hkM h0
            have h3 : (nn + 1 + M - 1 - k) % M < M := Nat.mod_lt _ (by omega)
            omega
          generalize hv : (decide (len ≤ k) || B k) = v at *
          have hv' := Lib.hid hv
          clear hv
          by_cases hki : k = i
          · have hki' : ((k : Int) == (i : Int)) = true := by simp [hki]
            have hMn : ¬ ((M : Int) ≤ 0) := by omega
            have hM0 : ¬ M = 0 := by omega
            have hki2 := Lib.hid hki
            clear hki hsnM
            cases v
            · (repeat (first | (first | refine gt_seq ?_ | refine gt_block ?_ | refine gt_region_end ?_ | refine gt_skip ?_ | refine gt_inBlock ?_ | refine gt_label ?_ | refine gt_scope ?_ | refine gt_inScope ?_ | refine gt_exit rfl ?_) | (refine gt_region ?_; simp only [List.size_toArray, List.length_cons, List.length_nil, Nat.reduceAdd, Nat.zero_add, List.range, List.range.loop]) | (refine gt_op rfl (by rfl) (by rfl) (by decide) (fun dd K hK => ?_); go_simp; refine hK _ _ ?_; clear hK K; (try walk_nrm); (try simp only [at_at', alloc_at', setCell_at']); refine Gt.at ?_ _) | (refine gt_unwanted rfl (by rfl) ?_; try walk_nrm) | (first | refine gt_cond_t rfl ?_ | refine gt_cond_f rfl ?_)))
              refine ih4'.out (r4 - 1) (k + 1) _ _ (by omega) ?_ ?_
              · exact ⟨by omega, hLap'.out.nextI hkM (by omega) hlbs hobs (by omega) (by omega) hhi.out hki2.out _⟩
              · rfl
            · (repeat (first | (first | refine gt_seq ?_ | refine gt_block ?_ | refine gt_region_end ?_ | refine gt_skip ?_ | refine gt_inBlock ?_ | refine gt_label ?_ | refine gt_scope ?_ | refine gt_inScope ?_ | refine gt_exit rfl ?_) | (refine gt_region ?_; simp only [List.size_toArray, List.length_cons, List.length_nil, Nat.reduceAdd, Nat.zero_add, List.range, List.range.loop]) | (refine gt_op rfl (by rfl) (by rfl) (by decide) (fun dd K hK => ?_); go_simp; refine hK _ _ ?_; clear hK K; (try walk_nrm); (try simp only [at_at', alloc_at', setCell_at']); refine Gt.at ?_ _) | (refine gt_unwanted rfl (by rfl) ?_; try walk_nrm) | (first | refine gt_cond_t rfl ?_ | refine gt_cond_f rfl ?_)))
              refine ih4'.out (r4 - 1) (k + 1) _ _ (by omega) ?_ ?_
              · exact ⟨by omega, hLap'.out.nextI hkM (by omega) hlbs hobs (by omega) (by omega) hhi.out hki2.out _⟩
              · rfl
          · have hki' : ((k : Int) == (i : Int)) = false := by rw [beq_eq_false_iff_ne]; omega
            have hki2 := Lib.hid hki
            cases v
            · clear hki hsnM
              (repeat (first | (first | refine gt_seq ?_ | refine gt_block ?_ | refine gt_region_end ?_ | refine gt_skip ?_ | refine gt_inBlock ?_ | refine gt_label ?_ | refine gt_scope ?_ | refine gt_inScope ?_ | refine gt_exit rfl ?_) | (refine gt_region ?_; simp only [List.size_toArray, List.length_cons, List.length_nil, Nat.reduceAdd, Nat.zero_add, List.range, List.range.loop]) | (refine gt_op rfl (by rfl) (by rfl) (by decide) (fun dd K hK => ?_); go_simp; refine hK _ _ ?_; clear hK K; (try walk_nrm); (try simp only [at_at', alloc_at', setCell_at']); refine Gt.at ?_ _) | (refine gt_unwanted rfl (by rfl) ?_; try walk_nrm) | (first | refine gt_cond_t rfl ?_ | refine gt_cond_f rfl ?_)))
              refine ih4'.out (r4 - 1) (k + 1) _ _ (by omega) ?_ ?_
              · exact ⟨by omega, hLap'.out.nextN hkM (by omega) hlbs hobs (by omega) (by omega) hhi.out hki2.out⟩
              · rfl
            · have hsn3 := hsnM rfl hki
              have hsn4 : ¬ ((M : Int) ≤ (sn k : Int) + 1) := by omega
              clear hki hsnM
              (repeat (first | (first | refine gt_seq ?_ | refine gt_block ?_ | refine gt_region_end ?_ | refine gt_skip ?_ | refine gt_inBlock ?_ | refine gt_label ?_ | refine gt_scope ?_ | refine gt_inScope ?_ | refine gt_exit rfl ?_) | (refine gt_region ?_; simp only [List.size_toArray, List.length_cons, List.length_nil, Nat.reduceAdd, Nat.zero_add, List.range, List.range.loop]) | (refine gt_op rfl (by rfl) (by rfl) (by decide) (fun dd K hK => ?_); go_simp; refine hK _ _ ?_; clear hK K; (try walk_nrm); (try simp only [at_at', alloc_at', setCell_at']); refine Gt.at ?_ _) | (refine gt_unwanted rfl (by rfl) ?_; try walk_nrm) | (first | refine gt_cond_t rfl ?_ | refine gt_cond_f rfl ?_)))
              refine ih4'.out (r4 - 1) (k + 1) _ _ (by omega) ?_ ?_
              · exact ⟨by omega, hLap'.out.nextN hkM (by omega) hlbs hobs (by omega) (by omega) hhi.out hki2.out⟩
              · rfl
        · have hkM : k = M := by omega
          have hLM := hLap'.out
          rw [hkM] at hLM
          have hLM' := Lib.hid hLM
          clear hLM hkM
          have hn1 : IntKind.i64.wrap ((nn : Int) + 1) = nn + 1 := wraps_i64 _ (by omega) (by omega)
          (repeat (first | (first | refine gt_seq ?_ | refine gt_block ?_ | refine gt_region_end ?_ | refine gt_skip ?_ | refine gt_inBlock ?_ | refine gt_label ?_ | refine gt_scope ?_ | refine gt_inScope ?_ | refine gt_exit rfl ?_) | (refine gt_region ?_; simp only [List.size_toArray, List.length_cons, List.length_nil, Nat.reduceAdd, Nat.zero_add, List.range, List.range.loop]) | (refine gt_op rfl (by rfl) (by rfl) (by decide) (fun dd K hK => ?_); go_simp; refine hK _ _ ?_; clear hK K; (try walk_nrm); (try simp only [at_at', alloc_at', setCell_at']); refine Gt.at ?_ _) | (refine gt_unwanted rfl (by rfl) ?_; try walk_nrm) | (first | refine gt_cond_t rfl ?_ | refine gt_cond_f rfl ?_)))
          refine ih3'.out (r3 - 1) (nn + 1) _ _ (by omega) ?_ ?_
          · exact ⟨by omega, _, _, _, _, hLM'.out.race hRace'.out hi honi hid'.out hpast'.out (by omega)⟩
          · rfl
    · skip
      have htry := try_T hRace'.out.bench (cap := lcap) hM1 (by omega) (by omega)
      (repeat (first | (first | refine gt_seq ?_ | refine gt_block ?_ | refine gt_region_end ?_ | refine gt_skip ?_ | refine gt_inBlock ?_ | refine gt_label ?_ | refine gt_scope ?_ | refine gt_inScope ?_ | refine gt_exit rfl ?_) | (refine gt_region ?_; simp only [List.size_toArray, List.length_cons, List.length_nil, Nat.reduceAdd, Nat.zero_add, List.range, List.range.loop]) | (refine gt_op rfl (by rfl) (by rfl) (by decide) (fun dd K hK => ?_); go_simp; refine hK _ _ ?_; clear hK K; (try walk_nrm); (try simp only [at_at', alloc_at', setCell_at']); refine Gt.at ?_ _) | (refine gt_unwanted rfl (by rfl) ?_; try walk_nrm) | (first | refine gt_cond_t rfl ?_ | refine gt_cond_f rfl ?_)))
      refine gt_callf rfl (by rfl) (by decide) rfl rfl Try.func39 (by rfl) rfl (htry) (by simp [Act.eval]) ?_
      clear htry
      rintro _ W20 ⟨hres, hk20⟩
      have hkF : Keeps w W20 (fun _ => False) := hRace'.out.keeps.above hk20 fun b hb => by
        rcases hb with x | x | ⟨j, hj, x⟩
        · omega
        · omega
        · obtain ⟨_, hPj, _⟩ := hRace'.out.bench.pipes j hj
          have := hPj.bellOut
          rw [hRace'.out.bench.bells j hj] at this
          have := x.1; omega
      have hkF' := Lib.hid hkF
      clear hkF hk20
      rcases hres with ⟨i, v, hi, hlt, rfl⟩ | ⟨hall, rfl⟩
      · walk_nrm
        (repeat (first | (first | refine gt_seq ?_ | refine gt_block ?_ | refine gt_region_end ?_ | refine gt_skip ?_ | refine gt_inBlock ?_ | refine gt_label ?_ | refine gt_scope ?_ | refine gt_inScope ?_ | refine gt_exit rfl ?_) | (refine gt_region ?_; simp only [List.size_toArray, List.length_cons, List.length_nil, Nat.reduceAdd, Nat.zero_add, List.range, List.range.loop]) | (refine gt_op rfl (by rfl) (by rfl) (by decide) (fun dd K hK => ?_); go_simp; refine hK _ _ ?_; clear hK K; (try walk_nrm); (try simp only [at_at', alloc_at', setCell_at']); refine Gt.at ?_ _) | (refine gt_unwanted rfl (by rfl) ?_; try walk_nrm) | (first | refine gt_cond_t rfl ?_ | refine gt_cond_f rfl ?_)))
        refine gt_callf rfl (by rfl) (by decide) rfl rfl Try.func40 (by rfl) rfl (works21_T W20) (by simp [Act.eval]) ?_
        rintro _ W21 ⟨rfl, hk21⟩
        walk_nrm
        (repeat (first | (first | refine gt_seq ?_ | refine gt_block ?_ | refine gt_region_end ?_ | refine gt_skip ?_ | refine gt_inBlock ?_ | refine gt_label ?_ | refine gt_scope ?_ | refine gt_inScope ?_ | refine gt_exit rfl ?_) | (refine gt_region ?_; simp only [List.size_toArray, List.length_cons, List.length_nil, Nat.reduceAdd, Nat.zero_add, List.range, List.range.loop]) | (refine gt_op rfl (by rfl) (by rfl) (by decide) (fun dd K hK => ?_); go_simp; refine hK _ _ ?_; clear hK K; (try walk_nrm); (try simp only [at_at', alloc_at', setCell_at']); refine Gt.at ?_ _) | (refine gt_unwanted rfl (by rfl) ?_; try walk_nrm) | (first | refine gt_cond_t rfl ?_ | refine gt_cond_f rfl ?_)))
        exact hfin'.out _ _ _ rfl rfl (hkF'.out.trans hk21)
      · clear hall
        walk_nrm
        (repeat (first | (first | refine gt_seq ?_ | refine gt_block ?_ | refine gt_region_end ?_ | refine gt_skip ?_ | refine gt_inBlock ?_ | refine gt_label ?_ | refine gt_scope ?_ | refine gt_inScope ?_ | refine gt_exit rfl ?_) | (refine gt_region ?_; simp only [List.size_toArray, List.length_cons, List.length_nil, Nat.reduceAdd, Nat.zero_add, List.range, List.range.loop]) | (refine gt_op rfl (by rfl) (by rfl) (by decide) (fun dd K hK => ?_); go_simp; refine hK _ _ ?_; clear hK K; (try walk_nrm); (try simp only [at_at', alloc_at', setCell_at']); refine Gt.at ?_ _) | (refine gt_unwanted rfl (by rfl) ?_; try walk_nrm) | (first | refine gt_cond_t rfl ?_ | refine gt_cond_f rfl ?_)))
        refine gt_callf rfl (by rfl) (by decide) rfl rfl Try.func40 (by rfl) rfl (works21_T W20) (by simp [Act.eval]) ?_
        rintro _ W21 ⟨rfl, hk21⟩
        walk_nrm
        (repeat (first | (first | refine gt_seq ?_ | refine gt_block ?_ | refine gt_region_end ?_ | refine gt_skip ?_ | refine gt_inBlock ?_ | refine gt_label ?_ | refine gt_scope ?_ | refine gt_inScope ?_ | refine gt_exit rfl ?_) | (refine gt_region ?_; simp only [List.size_toArray, List.length_cons, List.length_nil, Nat.reduceAdd, Nat.zero_add, List.range, List.range.loop]) | (refine gt_op rfl (by rfl) (by rfl) (by decide) (fun dd K hK => ?_); go_simp; refine hK _ _ ?_; clear hK K; (try walk_nrm); (try simp only [at_at', alloc_at', setCell_at']); refine Gt.at ?_ _) | (refine gt_unwanted rfl (by rfl) ?_; try walk_nrm) | (first | refine gt_cond_t rfl ?_ | refine gt_cond_f rfl ?_)))
        exact hfin'.out _ _ _ rfl rfl (hkF'.out.trans hk21)
end Go.Proofs.Ytekmbijlaonnmaa.Z
