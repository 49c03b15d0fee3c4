/-
  Goroutine 0 goes on while all others only leave: its own walk is carried out whatever is drawn (it may go deaf meanwhile), and the run ends well.
-/
import Derived.Test.YtekmbijlaonnmaaZHire
set_option linter.unusedSimpArgs false
set_option linter.unusedVariables false
namespace Go.Proofs.Ytekmbijlaonnmaa.Z
open Go.Conc
open Go.ConcN (sumTo upd sumTo_upd upd_ne upd_same)
/-- What is held of the trace: no race; goroutine 0 knows every touch; all is handed over. -/
structure PF (t : Trace) : Prop where
  clean : ∀ said, ¬ Race said t
  known : ∀ i a, touchAt t i = some a → a.loc.isMemory = true → Knows t 0 i
  over : t.HandedOver
section
variable {t u : Trace}
theorem PF.app0 (h : PF t) (hu : ∀ op ∈ u, op.g = 0) : PF (t ++ u) := by
  refine ⟨fun said => noRace_append (h.clean said) hu fun i a ha op hop b hb hc => h.known i a ha hc.2.1, fun i a ha hm => ?_, handedOver_app h.over fun op hop => .inl (hu op hop)⟩
  obtain ⟨x, hx, hxa⟩ := touch_of ha
  rcases getElem?_append_cases hx with ⟨_, hx'⟩ | ⟨_, hxu⟩
  · exact (h.known i a (by rw [touchAt_of hx']; exact hxa) hm).app u
  · have := knows_own hx
    rw [hu x hxu] at this
    exact this
theorem PF.appMute (h : PF t) {g : Nat} (hu : ∀ op ∈ u, op.g = g) (hn : ∀ op ∈ u, op.act.touch? = none) : PF (t ++ u) := by
  refine ⟨fun said => noRace_append (h.clean said) hu fun i a _ op hop b hb _ => (by rw [hn op hop] at hb; cases hb), fun i a ha hm => ?_, handedOver_app h.over fun op hop => .inr (hn op hop)⟩
  obtain ⟨x, hx, hxa⟩ := touch_of ha
  rcases getElem?_append_cases hx with ⟨_, hx'⟩ | ⟨_, hxu⟩
  · exact (h.known i a (by rw [touchAt_of hx']; exact hxa) hm).app u
  · rw [hn x hxu] at hxa; cases hxa
theorem PF.nil : PF #[] := ⟨past_nil.clean, fun i a ha => by simp [touchAt, Trace.act?] at ha, past_nil.over⟩
end
/-- What a step may do while the others only leave: whatever. -/
def DT (_ _ : World) (_ : Array Event) : Prop := True
/-- THE FRAME IN WHICH ALL OTHERS ONLY LEAVE; J: what else is held of world and trace; n: how deaf goroutine 0 is. -/
structure Lf (P : Program) (J : World → Trace → Prop) (n : Nat) (T : Trace) (gs : Array Goroutine) (w : World) (q : Nat → Nat) : Prop where
  leave : Leavers P T gs q
  past : PF T
  more : J w T
  deaf : Deaf T 0 = n
/-- What the carrying out asks of J. -/
structure JOk (D : World → World → Array Event → Prop) (J : World → Trace → Prop) : Prop where
  drew : ∀ w T d, J w T → J (w.at d) T
  own : ∀ w w' es T fn pos, J w T → D w w' es → J w' (T ++ MemOp.ofEvents 0 fn pos es)
  mute : ∀ w T g fn pos es, J w T → (∀ e ∈ es, Event.mute e = true) → J w (T ++ MemOp.ofEvents g fn pos es)
def JT (_ : World) (_ : Trace) : Prop := True
theorem jok_T : JOk DT JT := ⟨fun _ _ _ _ => trivial, fun _ _ _ _ _ _ _ _ => trivial, fun _ _ _ _ _ _ _ _ => trivial⟩
section
variable {P : Program} {D : World → World → Array Event → Prop} {J : World → Trace → Prop} {n : Nat} {T : Trace} {gs : Array Goroutine} {w : World} {q : Nat → Nat}
theorem Lf.awake (L : Lf P J n T gs w q) {a : Goroutine} (ha : gs[0]? = some a) (hr : a.status = .running) : ∀ g ∈ gs, awake g := by
  intro g hg
  obtain ⟨i, hi, rfl⟩ := Array.mem_iff_getElem.1 hg
  rcases Nat.eq_zero_or_pos i with rfl | hpos
  · have : gs[0] = a := by simpa [Array.getElem?_eq_getElem hi] using ha
    rw [this]; exact awake_of (.inl hr)
  · exact awake_of ((L.leave.old i _ hpos (Array.getElem?_eq_getElem hi)).status.elim .inl fun x => .inr (.inr x))
/-- A leaver slips. -/
theorem Lf.slip (hJ : JOk D J) (L : Lf P J n T gs w q) {i : Nat} {g a : Goroutine} {sl : Option (Nat × Nat)} (hi : gs[i]? = some g) (hpos : 0 < i) (hrun : g.status = .running) (ha : gs[0]? = some a) (hra : a.status = .running) :
    ∃ (gs' : Array Goroutine) (ops : Array MemOp) (q' : Nat → Nat), runT P (crowd gs w sl) i = (.next (crowd gs' w sl), ops) ∧ gs'.size = gs.size ∧ gs'[0]? = some a ∧ Lf P J n (T ++ ops) gs' w q' ∧ sumTo gs.size q' < sumTo gs.size q := by
  have hlt : i < gs.size := (Array.getElem?_eq_some_iff.1 hi).1
  have hq := L.leave.old i g hpos hi
  have hi0 : (i == 0) = false := by simp; omega
  cases hqi : q i with
  | zero => rw [hqi] at hq; rw [hq.1] at hrun; cases hrun
  | succ k =>
    rw [hqi] at hq
    rcases hq with ⟨hf, _⟩ | ⟨_, g', es, hm, hstp, hq'⟩
    · rw [hf] at hrun; cases hrun
    have hops : ∀ op ∈ MemOp.ofEvents i g.frame.fn g.frame.place es, op.g = i := fun op hop => by obtain ⟨e, _, rfl⟩ := Go.Conc.mem_ofEvents hop; rfl
    refine ⟨_, _, upd q i k, runT_crowd_go (sl := sl) hi (by rw [hi0]; exact hstp w), by simp, ?_, ⟨⟨fun j x hj hx => ?_, fun j hj => ?_⟩, ?_, ?_, ?_⟩, ?_⟩
    · have hne : i ≠ 0 := by omega
      rw [Array.getElem?_setIfInBounds_ne hne, Array.getElem?_map, ha]
      simp [woken_run hra]
    · by_cases hji : i = j
      · subst hji
        rw [Array.getElem?_setIfInBounds_self_of_lt (by simpa using hlt)] at hx
        obtain rfl := Option.some.inj hx
        rw [upd_same, Deaf_own]
        exact hq'
      · rw [Array.getElem?_setIfInBounds_ne hji, Array.getElem?_map] at hx
        obtain ⟨y, hy, rfl⟩ := Option.map_eq_some_iff.1 hx
        have hqj := L.leave.old j y hj hy
        rw [woken_quitsD hqj, upd_ne q k (Ne.symm hji), Deaf_other T hji _ hops]
        exact hqj
    · rw [Deaf_other T (g' := i) (by simp at hj; omega) _ hops]
      exact L.leave.above j (by simpa using hj)
    · exact L.past.appMute hops fun op hop => by obtain ⟨e, he, rfl⟩ := Go.Conc.mem_ofEvents hop; exact touch_mute (hm e he)
    · exact hJ.mute _ _ _ _ _ _ L.more hm
    · rw [Deaf_other T (g' := i) (by omega) _ hops]; exact L.deaf
    · have h2 : sumTo gs.size (upd q i k) + (k + 1) = sumTo gs.size q + k := by
        have := sumTo_upd q k id hlt
        simpa [hqi] using this
      omega
/-- Goroutine 0's own step. -/
theorem Lf.own (hJ : JOk D J) (L : Lf P J n T gs w q) {a a' : Goroutine} {w' : World} {es : Array Event} (ha : gs[0]? = some a) (hd : D w w' es) :
    Lf P J (deafBehind n es) (T ++ MemOp.ofEvents 0 a.frame.fn a.frame.place es) ((gs.map (woken P a a' w')).setIfInBounds 0 a') w' q ∧ ((gs.map (woken P a a' w')).setIfInBounds 0 a')[0]? = some a' := by
  have hlt : 0 < gs.size := (Array.getElem?_eq_some_iff.1 ha).1
  have hops : ∀ op ∈ MemOp.ofEvents 0 a.frame.fn a.frame.place es, op.g = 0 := fun op hop => by obtain ⟨e, _, rfl⟩ := Go.Conc.mem_ofEvents hop; rfl
  refine ⟨⟨⟨fun j x hj hx => ?_, fun j hj => ?_⟩, L.past.app0 hops, hJ.own _ _ _ _ _ _ L.more hd, by rw [Deaf_own, L.deaf]⟩, Array.getElem?_setIfInBounds_self_of_lt (by simpa using hlt)⟩
  · have hne : 0 ≠ j := by omega
    rw [Array.getElem?_setIfInBounds_ne hne, Array.getElem?_map] at hx
    obtain ⟨y, hy, rfl⟩ := Option.map_eq_some_iff.1 hx
    have hq := L.leave.old j y hj hy
    rw [woken_quitsD hq, Deaf_other T (by omega) _ hops]
    exact hq
  · rw [Deaf_other T (g' := 0) (by simp at hj; omega) _ hops]
    exact L.leave.above j (by simpa using hj)
theorem Lf.at (hJ : JOk D J) (L : Lf P J n T gs w q) (d : Nat) : Lf P J n T gs (w.at d) q := ⟨L.leave, L.past, hJ.drew _ _ _ L.more, L.deaf⟩
/-- THE WALK BESIDE LEAVERS, ON WHATEVER TAPE. -/
theorem holdL {Z : Goroutine → World → Nat → Prop} (hJ : JOk D J) {a : Goroutine} (hG : Gz P true D Z a w n) :
    ∀ {gs : Array Goroutine} {sl : Option (Nat × Nat)} {T : Trace} {q : Nat → Nat}, gs[0]? = some a → Lf P J n T gs w q →
    ∃ (N : Nat) (gs' : Array Goroutine) (a' : Goroutine) (w' : World) (n' : Nat) (sl' : Option (Nat × Nat)) (T' : Trace) (q' : Nat → Nat),
      runNT P N (crowd gs w sl) T = (.next (crowd gs' w' sl'), T') ∧ gs'.size = gs.size ∧ gs'[0]? = some a' ∧ Z a' w' n' ∧ Lf P J n' T' gs' w' q' := by
  refine hG.ind (I := fun a w n => ∀ {gs : Array Goroutine} {sl : Option (Nat × Nat)} {T : Trace} {q : Nat → Nat}, gs[0]? = some a → Lf P J n T gs w q →
    ∃ (N : Nat) (gs' : Array Goroutine) (a' : Goroutine) (w' : World) (n' : Nat) (sl' : Option (Nat × Nat)) (T' : Trace) (q' : Nat → Nat),
      runNT P N (crowd gs w sl) T = (.next (crowd gs' w' sl'), T') ∧ gs'.size = gs.size ∧ gs'[0]? = some a' ∧ Z a' w' n' ∧ Lf P J n' T' gs' w' q') ?_ ?_
  · intro g w n hz gs sl T q ha L
    exact ⟨0, gs, g, w, n, sl, T, q, rfl, rfl, ha, by have := hz w.drawn; exact this, L⟩
  · intro g w n hrun hs gs sl T q ha L
    have key : ∀ (M : Nat) (gs : Array Goroutine) (d₀ : Nat) (sl : Option (Nat × Nat)) (T : Trace) (q : Nat → Nat), sumTo gs.size q ≤ M → gs[0]? = some g → Lf P J n T gs (w.at d₀) q →
        ∃ (N : Nat) (gs' : Array Goroutine) (a' : Goroutine) (w' : World) (n' : Nat) (sl' : Option (Nat × Nat)) (T' : Trace) (q' : Nat → Nat),
          runNT P N (crowd gs (w.at d₀) sl) T = (.next (crowd gs' w' sl'), T') ∧ gs'.size = gs.size ∧ gs'[0]? = some a' ∧ Z a' w' n' ∧ Lf P J n' T' gs' w' q' := by
      intro M
      induction M using Nat.strongRecOn with
      | _ M ih =>
        intro gs d₀ sl T q hM ha L
        obtain ⟨i, gi, d, sl', hi, hg, hst⟩ := crowd_pick (P := P) (w := w.at d₀) (sl := sl) (L.awake ha hrun) ⟨0, g, ha, hrun⟩
        rw [at_at'] at hst
        have Ld : Lf P J n T gs (w.at d) q := by have := L.at hJ d; rwa [at_at'] at this
        rcases Nat.eq_zero_or_pos i with rfl | hpos
        · obtain rfl : gi = g := by rw [ha] at hi; exact (Option.some.inj hi).symm
          obtain ⟨g', w', es, hgo, hd, _, hnext⟩ := hs d
          obtain ⟨L', ha'⟩ := Ld.own (a' := g') hJ hi hd
          obtain ⟨N, gs', a', w'', n'', sl'', T', q', hr, hsz, h1, h2, h3⟩ := hnext (sl := sl') ha' L'
          refine ⟨N + 1, gs', a', w'', n'', sl'', T', q', ?_, by simpa using hsz, h1, h2, h3⟩
          have := runT_crowd_go (P := P) (sl := sl') (i := 0) hi hgo
          simp only [runNT, hst, this]
          exact hr
        · obtain ⟨gs', ops, q', hrt, hsz', h0', L', hlt⟩ := Ld.slip (sl := sl') hJ hi hpos hg ha hrun
          obtain ⟨N, gs'', a', w'', n'', sl'', T', q'', hr, hsz, h1, h2, h3⟩ := ih (sumTo gs'.size q') (by rw [hsz']; omega) gs' d sl' (T ++ ops) q' (Nat.le_refl _) h0' L'
          refine ⟨N + 1, gs'', a', w'', n'', sl'', T', q'', ?_, hsz.trans hsz', h1, h2, h3⟩
          simp only [runNT, hst, hrt]
          exact hr
    exact key _ gs w.drawn sl T q (Nat.le_refl _) ha L
/-- Goroutine 0 stands at the step that ends the run. -/
def AtFin (P : Program) (Post : Value → World → Prop) (g : Goroutine) (w : World) (_ : Nat) : Prop :=
  g.status = .running ∧ ∃ v, (∀ d, ∃ es, stepG P true g (w.at d) = .ended (.done v) (w.at d) es) ∧ ∀ d, Post v (w.at d)
/-- THE LAST WALK: THE RUN ENDS WELL, ON WHATEVER TAPE. -/
theorem finL {Post : Value → World → Prop} (hJ : JOk D J) {a : Goroutine} (hG : Gz P true D (AtFin P Post) a w n) {sl : Option (Nat × Nat)} (ha : gs[0]? = some a) (L : Lf P J n T gs w q) :
    ∃ N last o w' t', runNT P (N + 1) (crowd gs w sl) T = (.ended o w', t') ∧ runN P N (crowd gs w sl) = .next last ∧ step P last = .ended o w' ∧ Good P Post last o w' t' := by
  obtain ⟨N, gs₁, a₁, w₁, n₁, sl₁, T₁, q₁, hr, hsz, ha₁, ⟨hrun, v, hend, hpost⟩, L₁⟩ := holdL (sl := sl) hJ hG ha L
  have key : ∀ (M : Nat) (gs : Array Goroutine) (d₀ : Nat) (sl : Option (Nat × Nat)) (T : Trace) (q : Nat → Nat), sumTo gs.size q ≤ M → gs[0]? = some a₁ → Lf P J n₁ T gs (w₁.at d₀) q →
      ∃ N last o w' t', runNT P (N + 1) (crowd gs (w₁.at d₀) sl) T = (.ended o w', t') ∧ runN P N (crowd gs (w₁.at d₀) sl) = .next last ∧ step P last = .ended o w' ∧ Good P Post last o w' t' := by
    intro M
    induction M using Nat.strongRecOn with
    | _ M ih =>
      intro gs d₀ sl T q hM ha L
      obtain ⟨i, gi, d, sl', hi, hg, hst⟩ := crowd_pick (P := P) (w := w₁.at d₀) (sl := sl) (L.awake ha hrun) ⟨0, a₁, ha, hrun⟩
      rw [at_at'] at hst
      have Ld : Lf P J n₁ T gs (w₁.at d) q := by have := L.at hJ d; rwa [at_at'] at this
      rcases Nat.eq_zero_or_pos i with rfl | hpos
      · obtain rfl : gi = a₁ := by rw [ha] at hi; exact (Option.some.inj hi).symm
        obtain ⟨es, he⟩ := hend d
        have hrunT := runT_many_ended (P := P) (sl := sl') (i := 0) hi (show stepG P (0 == 0) gi (w₁.at d) = _ from he)
        have hops : ∀ op ∈ MemOp.ofEvents 0 gi.frame.fn gi.frame.place es, op.g = 0 := fun op hop => by obtain ⟨e, _, rfl⟩ := Go.Conc.mem_ofEvents hop; rfl
        have hP' := Ld.past.app0 hops
        have hstep : stepT P (crowd gs (w₁.at d₀) sl) = (.ended (.done v) (w₁.at d), MemOp.ofEvents 0 gi.frame.fn gi.frame.place es) := hst.trans hrunT
        refine ⟨0, _, .done v, w₁.at d, T ++ MemOp.ofEvents 0 gi.frame.fn gi.frame.place es, by simp only [runNT, hstep], rfl, by rw [step, hstep], v, rfl, hpost d, hP'.clean, hP'.over, ⟨fun x hx => ?_, rfl⟩, fun j x hx hj => ?_⟩
        · obtain ⟨j, hj⟩ := List.mem_iff_getElem?.1 hx
          rw [List.getElem?_drop] at hj
          exact ⟨_, (L.leave.old (1 + j) x (by omega) (by simpa [crowd] using hj)).leaves⟩
        · have hq := L.leave.old j x (by omega) hx
          refine ⟨q j, ?_⟩
          have e : (T ++ MemOp.ofEvents 0 gi.frame.fn gi.frame.place es).deaf j (T ++ MemOp.ofEvents 0 gi.frame.fn gi.frame.place es).size = Deaf T j := Deaf_other T (g := j) (g' := 0) (by omega) _ hops
          rw [e]
          exact hq.hears _
      · obtain ⟨gs', ops, q', hrt, hsz', h0', L', hlt⟩ := Ld.slip (sl := sl') hJ hi hpos hg ha hrun
        obtain ⟨N, last, o, w', t', e1, e2, e3, e4⟩ := ih (sumTo gs'.size q') (by rw [hsz']; omega) gs' d sl' (T ++ ops) q' (Nat.le_refl _) h0' L'
        have hstep : stepT P (crowd gs (w₁.at d₀) sl) = (.next (crowd gs' (w₁.at d) sl'), ops) := hst.trans hrt
        refine ⟨N + 1, last, o, w', t', ?_, ?_, e3, e4⟩
        · rw [runNT, hstep]; exact e1
        · rw [runN, step, hstep]; exact e2
  obtain ⟨N', last, o, w', t', e1, e2, e3, e4⟩ := key _ gs₁ w₁.drawn sl₁ T₁ q₁ (Nat.le_refl _) ha₁ L₁
  refine ⟨N + N', last, o, w', t', ?_, ?_, e3, e4⟩
  · rw [Nat.add_assoc, runNT_add, hr]; exact e1
  · rw [runN_add, ← runNT_fst P _ _ T, hr]; exact e2
end
/-- Between the two frames. -/
theorem lf_co {P : Program} {J : World → Trace → Prop} {T : Trace} {gs : Array Goroutine} {w : World} {q : Nat → Nat} (L : Lf P J 0 T gs w q) : Co P (fun _ => none) 0 T gs w q := co_begin L.leave L.past.clean L.past.known L.deaf
theorem co_lf {P : Program} {X : Nat → Option St} {T : Trace} {gs : Array Goroutine} {w : World} {q : Nat → Nat} (C : Co P X 0 T gs w q) (hI : ∀ i, i ≠ 0 → X i = none) : Lf P JT 0 T gs w q := by
  obtain ⟨h1, h2, h3, h4, h5⟩ := co_end C hI
  exact ⟨h1, ⟨h2, h3, h4⟩, trivial, h5⟩
theorem Lf.forget {P : Program} {J : World → Trace → Prop} {n : Nat} {T : Trace} {gs : Array Goroutine} {w : World} {q : Nat → Nat} (L : Lf P J n T gs w q) : Lf P JT n T gs w q := ⟨L.leave, L.past, trivial, L.deaf⟩
theorem lf_start (P : Program) (a : Goroutine) (w : World) : Lf P JT 0 #[] #[a] w (fun _ => 0) := ⟨leavers_one P a, .nil, trivial, rfl⟩
end Go.Proofs.Ytekmbijlaonnmaa.Z
