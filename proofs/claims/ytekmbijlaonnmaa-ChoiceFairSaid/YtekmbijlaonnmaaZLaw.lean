/-
  From the walk of one goroutine, whatever is drawn, to the form of a law's row.
-/
import Derived.Test.YtekmbijlaonnmaaZMain
import Derived.Test.YtekmbijlaonnmaaZHeap
import Derived.Test.YtekmbijlaonnmaaRows
import Derived.WalkKit
import Derived.ProofKit
import Derived.OpenShut
import Derived.Deep.Grids
import Derived.ChangeStays
import Derived.ChangeBook
import Derived.Handed
set_option linter.unusedSimpArgs false
set_option linter.unusedVariables false
namespace Go.Proofs.Ytekmbijlaonnmaa.Z
open Go.Conc Go.ChangeShapes Go.WideShapes Go.ChangeAt Go.RowKit
section
variable {P : Program} {b : Frame} {a : Act} {w : World}
theorem stepG_done {fn : Func} {todo : List Item} {v : Value} (hn : b.kind = .normal) (hd : a.defers = []) (hf : P.funcs[b.fn]? = some fn)
    (hr : (results fn a.tmps).run P w = .ok v w) (he : (results fn a.tmps).events P w #[] = #[]) (hi : P.inits.idxOf? b.fn = none) :
    stepG P true (G { b.at a todo with mode := .returning } []) w = .ended (.done v) w #[] := by
  simp [G, stepG, unwind, doReturn, Frame.at, hn, hd, hf, hr, he, hi, seen]
  rfl
/-- 'return' of the function that was entered first. -/
theorem gt_done {f : FuncId} {fn : Func} {k : List Item} {v : Value} {Post : Value → World → Prop} (hd : a.defers = []) (hf : P.funcs[f]? = some fn) (hr : ResultsC P fn a.tmps v) (hi : P.inits.idxOf? f = none) (hp : ∀ d, Post v (w.at d)) :
    Gt P (fun g w => AtFin P Post g w 0) (G ((base f).at a (.code .ret :: k)) []) w :=
  gt_ret (gt_stop fun d => ⟨rfl, v, fun d' => ⟨#[], by rw [at_at']; exact stepG_done rfl hd hf (hr _).1 (hr _).2 hi⟩, fun d' => by rw [at_at']; exact hp d'⟩)
/-- ONE GOROUTINE'S RUN ENDS WELL. -/
theorem finL1 {Post : Value → World → Prop} {a : Goroutine} (hG : Gt P (fun g w => AtFin P Post g w 0) a w) :
    ∃ N last v w' t', runNT P (N + 1) (solo a w) #[] = (.ended (.done v) w', t') ∧ runN P N (solo a w) = .next last ∧ step P last = .ended (.done v) w' ∧ Post v w' ∧ (∀ said, ¬ Race said t') ∧ aloneAtReturn P last w' t' := by
  obtain ⟨N, gs₁, a₁, w₁, n₁, sl₁, T₁, q₁, hr, hsz, ha₁, ⟨hrun, v, hend, hpost⟩, L₁⟩ := holdL (sl := none) jok_T (hG 0) (gs := #[a]) rfl (lf_start P a w)
  obtain ⟨i, gi, d, sl', hi, hg, hst⟩ := crowd_pick (P := P) (w := w₁) (sl := sl₁) (L₁.awake ha₁ hrun) ⟨0, a₁, ha₁, hrun⟩
  have hsz1 : gs₁.size = 1 := hsz
  have hi0 : i = 0 := by have := (Array.getElem?_eq_some_iff.1 hi).1; omega
  subst hi0
  obtain rfl : gi = a₁ := by rw [ha₁] at hi; exact (Option.some.inj hi).symm
  obtain ⟨es, he⟩ := hend d
  have hrunT := runT_many_ended (P := P) (sl := sl') (i := 0) hi (show stepG P (0 == 0) gi (w₁.at d) = _ from he)
  have hops : ∀ op ∈ MemOp.ofEvents 0 gi.frame.fn gi.frame.place es, op.g = 0 := fun op hop => by obtain ⟨e, _, rfl⟩ := Go.Conc.mem_ofEvents hop; rfl
  have hP' := L₁.past.app0 hops
  have hstep : stepT P (crowd gs₁ w₁ sl₁) = (.ended (.done v) (w₁.at d), MemOp.ofEvents 0 gi.frame.fn gi.frame.place es) := hst.trans hrunT
  have hr' : runNT P N (solo a w) #[] = (.next (crowd gs₁ w₁ sl₁), T₁) := hr
  refine ⟨N, crowd gs₁ w₁ sl₁, v, w₁.at d, T₁ ++ MemOp.ofEvents 0 gi.frame.fn gi.frame.place es, ?_, ?_, by rw [step, hstep], hpost d, hP'.clean, ⟨?_, rfl⟩, hP'.over, fun j x hx hj => ?_⟩
  · rw [runNT_add, hr']; simp only [runNT, hstep]
  · rw [← runNT_fst P _ _ #[], hr']
  · unfold Machine.othersDone
    have : (crowd gs₁ w₁ sl₁).gs.toList.drop 1 = [] := by rw [List.drop_eq_nil_iff]; simp [crowd, hsz1]
    rw [this]; rfl
  · have hx' : gs₁[j]? = some x := hx
    have := (Array.getElem?_eq_some_iff.1 hx').1
    exact absurd (by omega) hj
/-- FROM ONE GOROUTINE'S WALK TO THE ROW'S FORM. -/
theorem returnsInHanded_of_walk {A : Assume} {C : Checked} {os : Os} {f : FuncId} {r : Reach} {Pre : World → Array Value → Prop} {Post : World → Array Value → Value → World → Prop}
    (own : ownKnob C.prog.godebug = none) (started : os.Started)
    (witness : ∃ (w : World) (tape : Tape) (i : Input), w.os = os ∧ (w.forCall tape i).Shaped C.prog ∧ i.vars = [] ∧ Input.okWide C.prog (w.forCall tape i) r w.heap.size f i ∧ Pre (w.forCall tape i).memory i.args ∧
      A.holds C.prog (lone (Frame.enter C.prog f i.args .normal) [] (w.forCall tape i)))
    (runs : ∀ (w : World) (tape : Tape) (i : Input), w.os = os → (w.forCall tape i).ShapedOpen C.prog → i.vars = [] → Input.okWide C.prog (w.forCall tape i) r w.heap.size f i → Pre (w.forCall tape i).memory i.args →
      A.holds C.prog (lone (Frame.enter C.prog f i.args .normal) [] (w.forCall tape i)) →
      Gt C.prog (fun g W => AtFin C.prog (fun v w' => Post (w.forCall tape i).blind i.args v w'.blind) g W 0) (G (Frame.enter C.prog f i.args .normal) []) (w.forCall tape i)) :
    ReturnsInHanded A C os f r Pre Post := fun enter => by
  obtain ⟨w0, t0, i0, a1, a2, a3, a4, a5, a6⟩ := witness
  refine ⟨enter, own, started, ⟨w0, t0, i0, a1, a2, a3, a4, a5, a6, trivial⟩, fun w tape i h => ?_⟩
  obtain ⟨N, last, v, w', t', h1, h2, h3, hp, hrace, hal⟩ := finL1 (runs w tape i h.1 h.2.1 h.2.2.1 h.2.2.2.1 h.2.2.2.2.1 h.2.2.2.2.2.1)
  have h1' : runNT C.prog (N + 1) (Machine.entering C.prog w tape f i) #[] = (.ended (.done v) w', t') := h1
  have hn : runN C.prog (N + 1) (Machine.entering C.prog w tape f i) = .ended (.done v) w' := by rw [← runNT_fst _ _ _ #[], h1']
  exact ⟨N + 1, v, w', hn, by unfold Clean; rw [h1']; exact hrace _, roomy_placeholder .., hp, ⟨N, last, h2, h3, by rw [h1']; exact hal⟩, fun _ _ _ => trivial⟩
end
/-- What stands reads the same. -/
theorem Keeps.kept {w W : World} (h : Keeps w W fun _ => False) (may : MemPlace → Prop) : w.keptBut W may := by
  have ho := h.os
  refine ⟨congrArg Prod.fst ho, congrArg Prod.snd ho, fun i hi => ?_⟩
  rw [h.old i hi fun x => x]
  split
  · rename_i e1 e2; rw [e1] at e2; cases e2; exact ⟨rfl, rfl, rfl, fun _ _ => rfl⟩
  · rename_i e1 e2; rw [e1] at e2; cases e2; exact .inr ⟨rfl, rfl⟩
  · rfl
theorem Keeps.same {w W : World} (h : Keeps w W fun _ => False) {p : MemPlace} (hp : p.block < w.heap.size) : w.sameAt W p := by
  cases p <;> (have := h.old _ hp fun x => x; simp only [World.sameAt, World.cell?, MemPlace.block] at *; rw [this])
section
variable {H : Type} {enc : TypeId × Value → H} {P : Program}
theorem trodAll_keeps {w W : World} (hk : Keeps w W fun _ => False) (hl : laidOutB P = true) {sp : Nat → Bool} : ∀ {ts : List TypeId} {vs : List Value} {ds : List (DataW H)} {p : List MemPlace},
    DataW.TrodAll enc P w 0 (fun _ => true) true ts vs ds p → (∀ t ∈ ts, P.readableRec t = true ∧ t < P.types.size) → (∀ x ∈ p, x.block < w.heap.size ∧ sp x.block = true) → DataW.TrodAll enc P W 0 sp true ts vs ds p
  | [], _, _, _, h, _, _ => by
    obtain ⟨rfl, rfl, rfl⟩ := trodAll_nil h
    exact h
  | t :: ts, _, _, _, h, hr, hp => by
    obtain ⟨v, vs1, d, ds1, a, b, rfl, rfl, rfl, ⟨n, h1⟩, h2⟩ := trodAll_cons h
    have hrt := hr t (by simp)
    refine ⟨a, b, ⟨n, ?_⟩, trodAll_keeps hk hl h2 (fun t ht => hr t (by simp [ht])) (fun x hx => hp x (by simp [hx])), rfl⟩
    exact DataW.trod_stays (kids_book hl hrt.1) (book_sized hrt.1) (fun h => by cases h) ⟨hrt.2, book_self t⟩ h1 (fun x hx => hk.same (hp x (by have : x ∈ a := hx; simp [this])).1) (fun x hx => (hp x (by have : x ∈ a := hx; simp [this])).2)
/-- THE POST: a law's answer in a world that keeps what was there. -/
theorem post_of_keeps {f : Func} {s : ChangeSpec} {apart : Bool} {W W' : World} {args : Array Value} {v : Value} {ds gs : List (DataW H)} {before : List MemPlace}
    (hW : DataW.Whole enc P f.params.toList s.vars apart W args.toList ds gs before) (hvs : s.vars = []) (hl : laidOutB P = true) (hr : ∀ t ∈ f.params.toList, P.readableRec t = true ∧ t < P.types.size)
    (hres : ∀ (b : Nat) (sp : Nat → Bool) (hd : Bool), DataW.TrodAll enc P W' b sp hd f.resultTypes.toList (v.resultList f.resultTypes.size) (s.fn H (ds ++ gs)).results [])
    (hargs : (s.fn H (ds ++ gs)).args = ds) (hvars : (s.fn H (ds ++ gs)).vars = []) (hk : Keeps W W' fun _ => False) (fresh : Bool) :
    s.post enc P f apart fresh false false W args v W' := by
  have hold : ∀ p ∈ before, p.block < W.heap.size := fun p hp => by simpa using hW.lt p hp
  have hW' := hW
  obtain ⟨p, q, hA, hV, hb, hfz, hnd⟩ := hW
  rw [hvs] at hV
  obtain ⟨rfl, rfl⟩ := trodVars_none hV
  rw [List.append_nil] at hb
  subst hb
  refine ⟨ds, [], before, [], before, [], hW', hres _ _ _, ?_, ?_, hk.kept _, fun h => by cases h⟩
  · rw [hargs]
    exact trodAll_keeps hk hl hA hr fun x hx => ⟨hold x hx, by simpa using hold x hx⟩
  · rw [hvs, hvars]; rfl
end
end Go.Proofs.Ytekmbijlaonnmaa.Z
