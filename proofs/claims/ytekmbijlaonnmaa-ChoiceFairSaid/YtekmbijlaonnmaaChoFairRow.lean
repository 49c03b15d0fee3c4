/-
  PROVED: the given statement Rows.ChoiceFairSaid (treadlelaw21.ChoiceFair returns true at every input, and the input reads as it did). No condition.
-/
import Derived.Test.YtekmbijlaonnmaaChoFairWalk
import Derived.Test.YtekmbijlaonnmaaZLaw
import Derived.Test.YtekmbijlaonnmaaZFacts
import Derived.SizedLaws
set_option linter.unusedSimpArgs false
set_option linter.unusedVariables false
namespace Go.Proofs.Ytekmbijlaonnmaa.Z
open Go.Conc Go.ChangeShapes Go.WideShapes Go.ChangeAt Go.RowKit
theorem params5 : Try.f5.params.toList = [3, 3, 59] := by rw [Try.params5]
theorem rtypes5 : Try.f5.resultTypes = #[4] := rfl
theorem res5 : Try.f5.results = #[.tmp 6] := rfl
theorem read5 : ∀ t ∈ Try.f5.params.toList, Try.prog.readableRec t = true ∧ t < Try.prog.types.size := by
  rw [params5]
  intro t ht
  simp only [List.mem_cons, List.not_mem_nil, or_false] at ht
  rcases ht with rfl | rfl | rfl
  · exact ⟨by kernel_rfl, of_decide_eq_true (by kernel_rfl)⟩
  · exact ⟨by kernel_rfl, of_decide_eq_true (by kernel_rfl)⟩
  · exact ⟨by kernel_rfl, of_decide_eq_true (by kernel_rfl)⟩
set_option maxRecDepth 100000 in
theorem choiceFair_lifted (os : Os) (started : os.Started) (H : Type) (enc : TypeId × Value → H) :
    ReturnsInHanded {} Try.checked os 5 .any (Rows.choiceFairSpec.pre6 enc Try.prog Try.f5 Rows.choiceFairRow.domain false) (Rows.choiceFairSpec.post enc Try.prog Try.f5 false true false false) := by
  refine returnsInHanded_of_walk (C := Try.checked) ownP started
    (ChangeSpec.witness6 (enc := enc) (C := Try.checked) false ⟨#[], #[.int .i64 0, .int .i64 0, .slice none 0 0], []⟩ 8 (by kernel_rfl) (by kernel_rfl) (by kernel_rfl) (by kernel_rfl)) ?_
  intro w tape i _ _ _ hok hpre _
  obtain ⟨_, _, _, fn', hfn', _, _, _, _, hval0⟩ := hok
  have e : fn' = Try.f5 := Option.some.inj (hfn'.symm.trans Try.func5)
  subst e
  obtain ⟨⟨ds, gs, before, hw, hc⟩, hz⟩ := hpre
  have hW := DataW.Whole.of_heap (w' := w.forCall tape i) (by rfl) hw
  have hzw : (DataW.weightsEach Try.prog (Try.f5.params.toList ++ Rows.choiceFairSpec.plain.varTypes Try.prog) (ds ++ gs)).all (· ≤ reachBytes) = true := hz.weights hw
  clear hw hz hc hfn'
  generalize hWe : w.forCall tape i = W at *
  obtain ⟨iv, args, sv⟩ := i
  have hval : ∀ (j : Nat) t v, Try.f5.params[j]? = some t → args[j]? = some v → Value.okWide Try.prog W .any w.heap.size t v := hval0
  have hW' := hW
  obtain ⟨p, q, hA0, hV, rfl, hfz, hnd⟩ := hW
  have hA : DataW.TrodAll enc Try.prog W 0 (fun _ => true) true Try.f5.params.toList args.toList ds p := hA0
  rw [params5] at hA
  obtain ⟨v0, vs0, d0, ds0, p0, q0, hargs, rfl, rfl, h0, r0⟩ := trodAll_cons hA
  obtain ⟨v1, vs1, d1, ds1, p1, q1, rfl, rfl, rfl, h1, r1⟩ := trodAll_cons r0
  obtain ⟨v2, vs2, d2, ds2, p2, q2, rfl, rfl, rfl, h2, r2⟩ := trodAll_cons r1
  obtain ⟨rfl, rfl, rfl⟩ := trodAll_nil r2
  obtain rfl : args = #[v0, v1, v2] := by cases args; simp_all
  obtain ⟨rfl, rfl⟩ := trodVars_none hV
  obtain ⟨a0, rfl, rfl, rfl, w0⟩ := open_int Try.underlying3 (hval 0 3 v0 (by rw [Try.params5]; rfl) rfl) h0
  obtain ⟨a1, rfl, rfl, rfl, w1⟩ := open_int Try.underlying3 (hval 1 3 v1 (by rw [Try.params5]; rfl) rfl) h1
  obtain ⟨n2, h2⟩ := h2
  obtain ⟨ao, len, cap, rfl⟩ := okWide_slice Try.underlying59 (hval 2 59 v2 (by rw [Try.params5]; rfl) rfl)
  simp only [Lit.wf, Bool.and_eq_true, decide_eq_true_eq, show IntKind.i64.min = -9223372036854775808 from rfl, show IntKind.i64.max = 9223372036854775807 from rfl] at w0 w1
  have hfin : ∀ (a : Act) (k : List Item) (W' : World), a.defers = [] → a.tmps.getD 6 undef = .bool true → Keeps W W' (fun _ => False) →
      Gt Try.prog (fun g W' => AtFin Try.prog (fun v w' => Rows.choiceFairSpec.post enc Try.prog Try.f5 false true false false W.blind #[.int .i64 a0, .int .i64 a1, .slice ao len cap] v w'.blind) g W' 0) (G ((base 5).at a (.code .ret :: k)) []) W' := by
    intro a k W' hd h6 hk
    refine gt_done hd Try.func5 (resultsC_tmp res5 _) (by kernel_rfl) fun d => ChangeSpec.post_blind ?_
    refine post_of_keeps hW' rfl laidP read5 (fun b sp hd => ?_) rfl rfl (hk.at d) true
    rw [h6, rtypes5]
    exact trodAll_mk1 (shut_bool Try.underlying4 _)
  rcases Go.Deep.open_bools Try.underlying59 Try.underlying4 (by kernel_rfl) h2 with ⟨hcs, hx⟩ | ⟨ad, len', cap', B, hcs, _, hlc, hcap, hx, hcell⟩
  · simp only [Value.cells, List.cons.injEq, Value.slice.injEq, and_true] at hcs
    obtain ⟨rfl, rfl, rfl⟩ := hcs
    exact choiceFair_T W a0 a1 ⟨by omega, by omega⟩ ⟨by omega, by omega⟩ none 0 0 (fun _ => false) (by decide) (fun i hi => by omega) _ [] hfin
  · simp only [Value.cells, List.cons.injEq, Value.slice.injEq, and_true] at hcs
    obtain ⟨rfl, rfl, rfl⟩ := hcs
    simp only [Prod.mk.injEq] at hx
    have hs := sized_slice hzw (j := 2) (t := 59) (e := 4) (by rw [params5]; rfl) (by rw [hx.1]; rfl) Try.underlying59
    simp only [List.length_map, List.length_range, show Try.prog.bytesOf 4 = 1 by kernel_rfl, Nat.mul_one] at hs
    have := reachBytes_lt
    exact choiceFair_T W a0 a1 ⟨by omega, by omega⟩ ⟨by omega, by omega⟩ (some ad) len cap B (by omega) (fun i hi => ⟨ad, rfl, hcell i (by omega)⟩) _ [] hfin
set_option maxHeartbeats 0 in
set_option maxRecDepth 100000 in
theorem choiceFair_closed : joinedFacts Try.prog 5 Try.f5 Rows.choiceFairSpec Rows.choiceFairRow = true := by
  unfold joinedFacts
  simp only [Bool.and_eq_true]
  exact ⟨⟨⟨⟨⟨⟨⟨⟨⟨⟨⟨⟨⟨⟨⟨⟨⟨⟨⟨⟨⟨⟨⟨⟨⟨⟨⟨⟨⟨⟨⟨(by as_aux_lemma => kernel_rfl), laidP⟩, rowedP⟩, (by as_aux_lemma => kernel_rfl)⟩, (by as_aux_lemma => kernel_rfl)⟩, (by as_aux_lemma => kernel_rfl)⟩, stopsP⟩, (by as_aux_lemma => kernel_rfl)⟩, knobsP⟩, (by as_aux_lemma => kernel_rfl)⟩, (by as_aux_lemma => kernel_rfl)⟩, (by as_aux_lemma => kernel_rfl)⟩, (by as_aux_lemma => kernel_rfl)⟩, (by as_aux_lemma => kernel_rfl)⟩, (by as_aux_lemma => kernel_rfl)⟩, (by as_aux_lemma => kernel_rfl)⟩, (by as_aux_lemma => kernel_rfl)⟩, (by as_aux_lemma => kernel_rfl)⟩, (by as_aux_lemma => kernel_rfl)⟩, (by as_aux_lemma => kernel_rfl)⟩, (by as_aux_lemma => kernel_rfl)⟩, (by as_aux_lemma => kernel_rfl)⟩, (by as_aux_lemma => kernel_rfl)⟩, (by as_aux_lemma => kernel_rfl)⟩, heardP⟩, enterP⟩, (by as_aux_lemma => kernel_rfl)⟩, (by as_aux_lemma => kernel_rfl)⟩, (by as_aux_lemma => kernel_rfl)⟩, (by as_aux_lemma => kernel_rfl)⟩, (by as_aux_lemma => kernel_rfl)⟩, (by as_aux_lemma => kernel_rfl)⟩
theorem choiceFair_named : Try.pinned.checked.prog.funcNamed Rows.choiceFairRow.func = some 5 := by kernel_rfl
theorem choiceFair_inst : Try.f5.isInstance Try.pinned.checked.prog Rows.choiceFairRow.origin Rows.choiceFairRow.targs := of_decide_eq_true (by kernel_rfl)
theorem choiceFair_wrap : Try.f5.isWrapper Try.pinned.checked.prog Rows.choiceFairRow.wrapper Rows.choiceFairRow.mainSum := by
  unfold Func.isWrapper; first | (rw [if_pos (by decide +kernel)]; kernel_rfl) | (rw [if_neg (by decide +kernel)]; exact ⟨rfl, rfl⟩)
theorem choiceFair_over : Rows.choiceFairRow.holds Try.pinned (OpenSpec.ofChange Rows.choiceFairSpec) :=
  OpenClaim.holds_of_wide 5 Try.f5 rfl rfl rfl rfl rfl rfl rfl ⟨rfl, rfl, rfl, rfl, rfl⟩ rfl rfl rfl rfl rfl choiceFair_named Try.func5 choiceFair_closed
    choiceFair_inst choiceFair_wrap
    (fun os started H enc _ => choiceFair_lifted os started H enc)
/-- THE STATEMENT. -/
theorem choiceFair_holds : Rows.ChoiceFairSaid := choiceFair_over
#print axioms choiceFair_holds
end Go.Proofs.Ytekmbijlaonnmaa.Z
