/-
  The holder takes a seat anew, hires a child; how such a run begins and ends among goroutines that only leave.
-/
import Derived.Test.YtekmbijlaonnmaaZHold
set_option linter.unusedSimpArgs false
set_option linter.unusedVariables false
namespace Go.Proofs.Ytekmbijlaonnmaa.Z
open Go.Conc
open Go.ConcN (sumTo upd sumTo_upd upd_ne upd_same)
section
variable {P : Program} {X : Nat → Option St} {h : Nat} {T : Trace} {gs : Array Goroutine} {w : World} {q : Nat → Nat} {Pa : Addr → Prop} {Pc : Nat → Prop}
/-- THE HOLDER TAKES A SEAT (or another one). -/
theorem Co.reseat (C : Co P X h T gs w q) (hlt : h < gs.size) (s : St) {k : Nat} (hc : w.heap[s.c]? = some (.chan 0 #[] false k k false)) (hf : ∀ i t, i ≠ h → X i = some t → t.c ≠ s.c) (hB : s.B ≤ w.heap.size) : Co P (upd X h (some s)) h T gs w q := by
  have hne : ∀ x, x ≠ h → upd X h (some s) x = X x := fun x hx => upd_ne X _ hx
  refine ⟨fun x y hx hy => by rw [hne x hx]; exact C.idle x y hx hy, fun i t e => ?_, fun i j t u e₁ e₂ ec => ?_, C.above, fun i t e => ?_, fun i t hi e => C.keep i t hi (by rw [← hne i hi]; exact e), ?_⟩
  · by_cases ei : i = h
    · subst ei; rw [upd_same] at e; obtain rfl := Option.some.inj e; exact ⟨k, hc⟩
    · rw [hne i ei] at e; exact C.chans i t e
  · by_cases e1 : i = h <;> by_cases e2 : j = h
    · rw [e1, e2]
    · subst e1
      rw [upd_same] at e₁; rw [hne j e2] at e₂
      obtain rfl := Option.some.inj e₁
      exact absurd ec.symm (hf j u e2 e₂)
    · subst e2
      rw [upd_same] at e₂; rw [hne i e1] at e₁
      obtain rfl := Option.some.inj e₂
      exact absurd ec (hf i t e1 e₁)
    · rw [hne i e1] at e₁; rw [hne j e2] at e₂
      exact C.inj i j t u e₁ e₂ ec
  · by_cases ei : i = h
    · subst ei; rw [upd_same] at e; obtain rfl := Option.some.inj e; exact ⟨hlt, hB⟩
    · rw [hne i ei] at e; exact C.low i t e
  · have H := C.past
    refine ⟨H.clean, fun p a ha hm => (H.known p a ha hm).imp id fun ⟨x, g, hg, ⟨hgh, hs⟩, hr⟩ => ⟨x, g, hg, ⟨hgh, by rw [hne g hgh]; exact hs⟩, by rw [hne g hgh]; exact hr⟩, fun p a ha hw g hg hr => ?_, fun g hg => ?_⟩
    · by_cases eg : g = h
      · subst eg
        obtain ⟨s', e', p', hp', el⟩ := hr
        exact (H.known p a ha (by rw [el]; rfl)).elim id fun ⟨x, _⟩ => by rw [hw] at x; cases x
      · rw [hne g eg] at hg hr
        exact H.wrote p a ha hw g hg hr
    · by_cases eg : g = h
      · exact H.hears g (.inr eg)
      · rw [hne g eg] at hg
        exact H.hears g hg
/-- THE HOLDER, RUNNING, IS PICKED IN THE END. -/
theorem Co.picked {a : Goroutine} {sl : Option (Nat × Nat)} (ha : gs[h]? = some a) (hrun : a.status = .running) (C : Co P X h T gs w q) :
    ∃ (N : Nat) (gs' : Array Goroutine) (d d' : Nat) (sl' sl'' : Option (Nat × Nat)) (T' : Trace) (q' : Nat → Nat), runNT P N (crowd gs w sl) T = (.next (crowd gs' (w.at d) sl'), T') ∧
      stepT P (crowd gs' (w.at d) sl') = runT P (crowd gs' (w.at d') sl'') h ∧ gs'.size = gs.size ∧ gs'[h]? = some a ∧ Co P X h T' gs' (w.at d') q' := by
  obtain ⟨N, m', T', hr, gs', d, d', sl', sl'', q', rfl, hst, hsz, ha', C'⟩ := runs_until (P := P)
    (Inv := fun μ m t => ∃ gs₁ d sl₁ q₁, m = crowd gs₁ (w.at d) sl₁ ∧ gs₁.size = gs.size ∧ gs₁[h]? = some a ∧ Co P X h t gs₁ (w.at d) q₁ ∧ μ = sumTo gs₁.size q₁)
    (Done := fun m t => ∃ gs₁ d d' sl₁ sl₂ q₁, m = crowd gs₁ (w.at d) sl₁ ∧ stepT P (crowd gs₁ (w.at d) sl₁) = runT P (crowd gs₁ (w.at d') sl₂) h ∧ gs₁.size = gs.size ∧ gs₁[h]? = some a ∧ Co P X h t gs₁ (w.at d') q₁)
    (fun μ m t ⟨gs₁, d, sl₁, q₁, hm, hsz, ha₁, C₁, hμ⟩ => by
      subst hm
      obtain ⟨i, g, d', sl', hi, hg, hst⟩ := crowd_pick (P := P) (w := w.at d) (sl := sl₁) (C₁.awake ha₁ (.inl hrun)) ⟨h, a, ha₁, hrun⟩
      rw [at_at'] at hst
      have Cd : Co P X h t gs₁ (w.at d') q₁ := C₁.at d'
      by_cases e : i = h
      · subst e
        exact .inl ⟨gs₁, d, d', sl₁, sl', q₁, rfl, hst, hsz, ha₁, Cd⟩
      · obtain ⟨gs', ops, q', hrt, hsz', hsp, _, _, C', hlt⟩ := Co.by_step (sl := sl') Cd hi e hg
          (fun x hx => by rw [ha₁] at hx; obtain rfl := Option.some.inj hx; exact again_of_running (.inl hrun) _)
          (fun s g₂ _ _ x hx => by rw [ha₁] at hx; obtain rfl := Option.some.inj hx; exact offersAt_of_not_blocked (by rw [hrun]; simp) _ _)
        exact .inr ⟨_, _, sumTo gs'.size q', by rw [hst]; exact hrt, by rw [hsz']; omega, gs', d', sl', q', rfl, hsz'.trans hsz, by rw [hsp]; exact ha₁, C', rfl⟩)
    _ _ T ⟨gs, w.drawn, sl, q, rfl, rfl, ha, C, rfl⟩
  exact ⟨N, gs', d, d', sl', sl'', T', q', hr, hst, hsz, ha', C'⟩
/-- T4: THE HOLDER STANDS AT A go STATEMENT; the child has a seat of its own, and is on its way there. -/
theorem hire (G : Guarded X Pa Pc) {a a' child : Goroutine} {es : Array Event} {sl : Option (Nat × Nat)} (ha : gs[h]? = some a) (hrun : a.status = .running)
    (hgo : ∀ d, stepG P (h == 0) a (w.at d) = .spawn a' child (w.at d) es) (hes : DZ Pa Pc w w es) (C : Co P X h T gs w q)
    (s : St) {k : Nat} (hc : w.heap[s.c]? = some (.chan 0 #[] false k k false)) (hf : ∀ i t, X i = some t → t.c ≠ s.c) (hB : s.B ≤ w.heap.size) (hkeep : s.keep w) {nc : Nat} (hchild : SitsS P false s nc child) :
    ∃ (N : Nat) (gs' : Array Goroutine) (d : Nat) (sl' : Option (Nat × Nat)) (T' : Trace) (q' : Nat → Nat), runNT P N (crowd gs w sl) T = (.next (crowd gs' (w.at d) sl'), T') ∧ gs'.size = gs.size + 1 ∧ gs'[h]? = some a' ∧
      Co P (upd X gs.size (some s)) h T' gs' (w.at d) q' := by
  obtain ⟨N, gs₁, d, d', sl₁, sl₂, T₁, q₁, hr, hst, hsz, ha₁, C₁⟩ := Co.picked (sl := sl) ha hrun C
  have hlt : h < gs₁.size := (Array.getElem?_eq_some_iff.1 ha₁).1
  have hesd : DZ Pa Pc (w.at d') (w.at d') es := hes
  have hrt := runT_crowd_spawn (P := P) (sl := sl₂) ha₁ (hgo d')
  have hpush : ((MemOp.ofEvents h a.frame.fn a.frame.place es).push { g := h, fn := a.frame.fn, pos := a.frame.place, act := .go gs₁.size } |>.push { g := gs₁.size, fn := child.frame.fn, pos := a.frame.place, act := .start }) =
      MemOp.ofEvents h a.frame.fn a.frame.place es ++ #[{ g := h, fn := a.frame.fn, pos := a.frame.place, act := .go gs₁.size }, { g := gs₁.size, fn := child.frame.fn, pos := a.frame.place, act := .start }] := by
    apply Array.ext'; simp
  rw [hpush] at hrt
  have C2 := Co.turned (gs' := gs₁) G C₁ hesd a.frame.fn a.frame.place (Nat.le_refl _) (fun _ _ _ hy => hy)
  generalize hT₂ : T₁ ++ MemOp.ofEvents h a.frame.fn a.frame.place es = T₂ at C2
  have hXn : X gs₁.size = none := by
    cases e : X gs₁.size with
    | none => rfl
    | some s' => exact absurd (C₁.low _ s' e).1 (Nat.lt_irrefl _)
  have p2 := C2.past.hire (c := gs₁.size) (C2.above _ (Nat.le_refl _)) (by omega) a.frame.fn a.frame.place child.frame.fn s.rd (fun l ⟨s', e, _⟩ => by rw [hXn] at e; cases e)
    (fun p b hb hw ⟨x, hx, el⟩ => (C2.past.known p b hb (by rw [el]; rfl)).elim id fun ⟨z, _⟩ => by rw [hw] at z; cases z) (fun l ⟨x, _, el⟩ => by rw [el]; rfl)
  have hD2 : ∀ x, Deaf (T₂ ++ #[{ g := h, fn := a.frame.fn, pos := a.frame.place, act := .go gs₁.size }, { g := gs₁.size, fn := child.frame.fn, pos := a.frame.place, act := .start }]) x = Deaf T₂ x := fun x =>
    Deaf_quiet (fun op hop d => by
      simp only [List.mem_toArray, List.mem_cons, List.not_mem_nil, or_false] at hop
      rcases hop with rfl | rfl <;> rfl)
  have eops : T₁ ++ (MemOp.ofEvents h a.frame.fn a.frame.place es ++ #[{ g := h, fn := a.frame.fn, pos := a.frame.place, act := .go gs₁.size }, { g := gs₁.size, fn := child.frame.fn, pos := a.frame.place, act := .start }]) =
      T₂ ++ #[{ g := h, fn := a.frame.fn, pos := a.frame.place, act := .go gs₁.size }, { g := gs₁.size, fn := child.frame.fn, pos := a.frame.place, act := .start }] := by rw [← hT₂, Array.append_assoc]
  refine ⟨N + 1, _, d', sl₂, _, upd q₁ gs₁.size nc, runNT_succ_of hr (hst.trans hrt), by simp [hsz], (by rw [Array.getElem?_push, if_neg (by simp; omega)]; exact Array.getElem?_setIfInBounds_self_of_lt hlt), ?_⟩
  rw [eops, ← hsz]
  have hup : ∀ x, x ≠ gs₁.size → upd X gs₁.size (some s) x = X x := fun x hx => upd_ne X _ hx
  refine ⟨fun x y hx hy => ?_, fun i t e => ?_, fun i i' s₁ s₂ e₁ e₂ ec => ?_, fun x hx => ?_, fun i t e => ?_, fun i t hi e => ?_, ?_⟩
  · by_cases ex : x = gs₁.size
    · subst ex
      rw [Array.getElem?_push, if_pos (by simp)] at hy
      obtain rfl := Option.some.inj hy
      rw [upd_same, upd_same]
      have : (gs₁.size == 0) = false := by rw [beq_eq_false_iff_ne]; omega
      show SitsS P (gs₁.size == 0) s nc child
      rw [this]; exact hchild
    · have hxl : x < gs₁.size := by
        have := (Array.getElem?_eq_some_iff.1 hy).1
        simp at this; omega
      rw [Array.getElem?_push, if_neg (by simp; omega), Array.getElem?_setIfInBounds_ne (fun z => hx z.symm)] at hy
      rw [upd_ne q₁ nc ex, hup x ex]
      have hi := C2.idle x y hx hy
      cases e : X x with
      | none => rw [e] at hi; exact ⟨hi.1, by rw [hD2]; exact hi.2⟩
      | some t => rw [e] at hi; exact hi
  · by_cases ei : i = gs₁.size
    · subst ei
      rw [upd_same] at e
      obtain rfl := Option.some.inj e
      exact ⟨k, hc⟩
    · rw [hup i ei] at e
      exact C2.chans i t e
  · by_cases e1 : i = gs₁.size <;> by_cases e2 : i' = gs₁.size
    · rw [e1, e2]
    · subst e1
      rw [upd_same] at e₁; rw [hup i' e2] at e₂
      obtain rfl := Option.some.inj e₁
      exact absurd ec.symm (hf i' s₂ e₂)
    · subst e2
      rw [upd_same] at e₂; rw [hup i e1] at e₁
      obtain rfl := Option.some.inj e₂
      exact absurd ec (hf i s₁ e₁)
    · rw [hup i e1] at e₁; rw [hup i' e2] at e₂
      exact C2.inj i i' s₁ s₂ e₁ e₂ ec
  · rw [hD2]
    exact C2.above x (by simp at hx; omega)
  · by_cases ei : i = gs₁.size
    · subst ei
      rw [upd_same] at e
      obtain rfl := Option.some.inj e
      exact ⟨by simp, hB⟩
    · rw [hup i ei] at e
      have := C2.low i t e
      exact ⟨by simp; omega, this.2⟩
  · by_cases ei : i = gs₁.size
    · subst ei
      rw [upd_same] at e
      obtain rfl := Option.some.inj e
      exact hkeep
    · rw [hup i ei] at e
      exact C2.keep i t hi e
  · have hMem : ∀ g, (∃ t, upd X gs₁.size (some s) g = some t) → ((∃ t, X g = some t) ∨ g = gs₁.size) := fun g ⟨t, e⟩ => by
      by_cases eg : g = gs₁.size
      · exact .inr eg
      · rw [hup g eg] at e; exact .inl ⟨t, e⟩
    have hRd : ∀ g l, (∃ t, upd X gs₁.size (some s) g = some t ∧ t.rd l) → ((∃ t, X g = some t ∧ t.rd l) ∨ (g = gs₁.size ∧ s.rd l)) := fun g l ⟨t', e', hr'⟩ => by
      by_cases eg : g = gs₁.size
      · subst eg
        rw [upd_same] at e'
        obtain rfl := Option.some.inj e'
        exact .inr ⟨rfl, hr'⟩
      · rw [hup g eg] at e'; exact .inl ⟨t', e', hr'⟩
    refine ⟨p2.clean, fun p b hb hm => ?_, fun p b hb hw g hg hr' => p2.wrote p b hb hw g (hMem g hg) (hRd g _ hr'), fun g hg => p2.hears g (hg.imp (hMem g) id)⟩
    rcases p2.known p b hb hm with hk | ⟨x, g, hg, hl, hR⟩
    · exact .inl hk
    · refine .inr ⟨x, g, hg, ?_, ?_⟩
      · rcases hl with ⟨hgh, t, e⟩ | rfl
        · refine ⟨hgh, ?_⟩
          by_cases eg : g = gs₁.size
          · subst eg; exact ⟨s, upd_same _ _ _⟩
          · exact ⟨t, by rw [hup g eg]; exact e⟩
        · exact ⟨by omega, s, upd_same _ _ _⟩
      · rcases hR with ⟨t, e, hr'⟩ | ⟨rfl, hr'⟩
        · by_cases eg : g = gs₁.size
          · subst eg; rw [hXn] at e; cases e
          · exact ⟨t, by rw [hup g eg]; exact e, hr'⟩
        · exact ⟨s, upd_same _ _ _, hr'⟩
/-- FROM THE FRAME IN WHICH ALL OTHERS ONLY LEAVE. -/
theorem co_begin (hL : Leavers P T gs q) (h1 : ∀ said, ¬ Race said T) (h2 : ∀ i a, touchAt T i = some a → a.loc.isMemory = true → Knows T 0 i) (h3 : Deaf T 0 = 0) : Co P (fun _ => none) 0 T gs w q :=
  ⟨fun i g hi hg => ⟨Nat.pos_of_ne_zero hi, hL.old i g (Nat.pos_of_ne_zero hi) hg⟩, (fun _ _ e => nomatch e), (fun _ _ _ _ e => nomatch e), hL.above, (fun _ _ e => nomatch e), (fun _ _ _ e => nomatch e),
    ((PT.ofKnown (B := w.heap.size) (Rd := fun g l => ∃ s, (fun _ => none : Nat → Option St) g = some s ∧ s.rd l) h1 h2 h3).fewer (fun g ⟨s, e⟩ => nomatch e)).loosen (fun g hg => hg.elim)⟩
/-- AND BACK. -/
theorem co_end (C : Co P X 0 T gs w q) (hI : ∀ i, i ≠ 0 → X i = none) : Leavers P T gs q ∧ (∀ said, ¬ Race said T) ∧ (∀ i a, touchAt T i = some a → a.loc.isMemory = true → Knows T 0 i) ∧ T.HandedOver ∧ Deaf T 0 = 0 := by
  have hL : ∀ g, ¬ (g ≠ 0 ∧ ∃ s, X g = some s) := fun g ⟨hg, s, e⟩ => by rw [hI g hg] at e; cases e
  exact ⟨⟨fun i g hi hg => by have := C.idle i g (by omega) hg; rw [hI i (by omega)] at this; exact this.2, C.above⟩, C.past.clean, C.past.knownAll hL, C.past.over hL, C.past.hears 0 (.inr rfl)⟩
end
end Go.Proofs.Ytekmbijlaonnmaa.Z
