/-
  One goroutine's own way to a stop, whatever the scheduler draws; and the machine carries it out while the others sit or leave; the token passes at a send; a child is hired.
-/
import Derived.Test.YtekmbijlaonnmaaZRing
set_option linter.unusedSimpArgs false
set_option linter.unusedVariables false
namespace Go.Proofs.Ytekmbijlaonnmaa.Z
open Go.Conc
open Go.ConcN (sumTo upd sumTo_upd upd_ne upd_same)
/-- Goroutine g, in world w, deaf n deep, COMES TO Z by steps of its own, each within D, whatever is drawn. -/
def Gz (P : Program) (main : Bool) (D : World → World → Array Event → Prop) (Z : Goroutine → World → Nat → Prop) (g : Goroutine) (w : World) (n : Nat) : Prop :=
  ∀ I : Goroutine → World → Nat → Prop,
    (∀ g w n, (∀ d, Z g (w.at d) n) → I g w n) →
    (∀ g w n, g.status = .running → (∀ d, ∃ g' w' es, stepG P main g (w.at d) = .go g' w' es ∧ D (w.at d) w' es ∧ I g' w' (deafBehind n es)) → I g w n) → I g w n
section
variable {P : Program} {main : Bool} {D D' : World → World → Array Event → Prop} {Z Z' : Goroutine → World → Nat → Prop} {g : Goroutine} {w : World} {n : Nat}
theorem gz_stop (h : ∀ d, Z g (w.at d) n) : Gz P main D Z g w n := fun _ h1 _ => h1 _ _ _ h
theorem gz_step (hr : g.status = .running) (h : ∀ d, ∃ g' w' es, stepG P main g (w.at d) = .go g' w' es ∧ D (w.at d) w' es ∧ Gz P main D Z g' w' (deafBehind n es)) : Gz P main D Z g w n :=
  fun I h1 h2 => h2 _ _ _ hr fun d => let ⟨g', w', es, a, b, c⟩ := h d; ⟨g', w', es, a, b, c I h1 h2⟩
theorem Gz.ind {I : Goroutine → World → Nat → Prop} (h : Gz P main D Z g w n) (h1 : ∀ g w n, (∀ d, Z g (w.at d) n) → I g w n)
    (h2 : ∀ g w n, g.status = .running → (∀ d, ∃ g' w' es, stepG P main g (w.at d) = .go g' w' es ∧ D (w.at d) w' es ∧ Gz P main D Z g' w' (deafBehind n es) ∧ I g' w' (deafBehind n es)) → I g w n) : I g w n := by
  have := h (fun g w n => Gz P main D Z g w n ∧ I g w n) (fun g w n hz => ⟨gz_stop hz, h1 g w n hz⟩) (fun g w n hr hs => ⟨gz_step hr fun d => let ⟨g', w', es, a, b, c⟩ := hs d; ⟨g', w', es, a, b, c.1⟩, h2 g w n hr hs⟩)
  exact this.2
theorem Gz.cases (h : Gz P main D Z g w n) : (∀ d, Z g (w.at d) n) ∨ (g.status = .running ∧ ∀ d, ∃ g' w' es, stepG P main g (w.at d) = .go g' w' es ∧ D (w.at d) w' es ∧ Gz P main D Z g' w' (deafBehind n es)) :=
  h.ind (I := fun g w n => (∀ d, Z g (w.at d) n) ∨ (g.status = .running ∧ ∀ d, ∃ g' w' es, stepG P main g (w.at d) = .go g' w' es ∧ D (w.at d) w' es ∧ Gz P main D Z g' w' (deafBehind n es)))
    (fun _ _ _ hz => .inl hz) fun _ _ _ hr hs => .inr ⟨hr, fun d => let ⟨g', w', es, a, b, c, _⟩ := hs d; ⟨g', w', es, a, b, c⟩⟩
theorem Gz.at (h : Gz P main D Z g w n) (d : Nat) : Gz P main D Z g (w.at d) n := by
  rcases h.cases with hz | ⟨hr, hs⟩
  · exact gz_stop fun d' => hz d'
  · exact gz_step hr fun d' => hs d'
theorem Gz.of_at {d : Nat} (h : Gz P main D Z g (w.at d) n) : Gz P main D Z g w n := by
  rcases h.cases with hz | ⟨hr, hs⟩
  · exact gz_stop fun d' => hz d'
  · exact gz_step hr fun d' => hs d'
theorem Gz.mono (h : Gz P main D Z g w n) (hD : ∀ w w' es, D w w' es → D' w w' es) (hZ : ∀ g w n, Z g w n → Z' g w n) : Gz P main D' Z' g w n :=
  h.ind (fun _ _ _ hz => gz_stop fun d => hZ _ _ _ (hz d)) fun _ _ _ hr hs => gz_step hr fun d => let ⟨g', w', es, a, b, _, c⟩ := hs d; ⟨g', w', es, a, hD _ _ _ b, c⟩
/-- From one stop on to another. -/
theorem Gz.bind (h : Gz P main D Z g w n) (hZ : ∀ g w n, Z g w n → Gz P main D Z' g w n) : Gz P main D Z' g w n :=
  h.ind (fun _ _ _ hz => (hZ _ _ _ (hz 0)).of_at) fun _ _ _ hr hs => gz_step hr fun d => let ⟨g', w', es, a, b, _, c⟩ := hs d; ⟨g', w', es, a, b, c⟩
end
/-- What a step may do while others sit: the cells Pa and the channels Pc stand; no write of a cell of Pa is listed; no mark of deafness; every address lies in memory. -/
def DZ (Pa : Addr → Prop) (Pc : Nat → Prop) (w w' : World) (es : Array Event) : Prop :=
  (∀ a, Pa a → w'.cell? a = w.cell? a) ∧ (∀ c, Pc c → w'.heap[c]? = w.heap[c]?) ∧ w.heap.size ≤ w'.heap.size ∧
  ∀ e ∈ es, (∀ x, (MemAct.ofEvent e).touch? = some x → x.write = true → ∀ a, Pa a → x.loc ≠ .cell a) ∧ e.loc ≠ .mark .disable ∧ e.loc ≠ .mark .enable
theorem DZ.hears {Pa : Addr → Prop} {Pc : Nat → Prop} {w w' : World} {es : Array Event} (h : DZ Pa Pc w w' es) (n : Nat) : deafBehind n es = n :=
  deafBehind_still (fun e he => ⟨(h.2.2.2 e he).2.1, (h.2.2.2 e he).2.2⟩) n
/-- All that the seats lean on is among the cells and channels that stand. -/
structure Guarded (X : Nat → Option St) (Pa : Addr → Prop) (Pc : Nat → Prop) : Prop where
  cell : ∀ i s, X i = some s → ∀ p ∈ s.cells, Pa p.1
  chan : ∀ i s, X i = some s → Pc s.c
section
variable {P : Program} {X : Nat → Option St} {h : Nat} {T : Trace} {gs : Array Goroutine} {w : World} {q : Nat → Nat} {Pa : Addr → Prop} {Pc : Nat → Prop}
theorem dz_ops {w' : World} {i : Nat} {fn : FuncId} {pos : String} {es : Array Event} (hd : DZ Pa Pc w w' es) :
    (∀ op ∈ MemOp.ofEvents i fn pos es, op.g = i) ∧ (∀ op ∈ MemOp.ofEvents i fn pos es, ∀ b, op.act.touch? = some b → b.write = true → ∀ a, Pa a → b.loc ≠ .cell a) ∧ ∀ t : Trace, Deaf (t ++ MemOp.ofEvents i fn pos es) i = Deaf t i :=
  ⟨fun op hop => by obtain ⟨e, _, rfl⟩ := Go.Conc.mem_ofEvents hop; rfl, fun op hop b hb => by obtain ⟨e, h, rfl⟩ := Go.Conc.mem_ofEvents hop; exact (hd.2.2.2 e h).1 b hb,
    fun t => by rw [Deaf_own]; exact hd.hears _⟩
/-- The world and the trace behind a step of the holder's. -/
theorem Co.turned (G : Guarded X Pa Pc) (C : Co P X h T gs w q) {w' : World} {es : Array Event} (hd : DZ Pa Pc w w' es) (fn : FuncId) (pos : String) {gs' : Array Goroutine} (hsz : gs.size ≤ gs'.size) (hoth : ∀ x y, x ≠ h → gs'[x]? = some y → gs[x]? = some y) :
    Co P X h (T ++ MemOp.ofEvents h fn pos es) gs' w' q := by
  obtain ⟨hops, hs, hdf⟩ := dz_ops (i := h) (fn := fn) (pos := pos) hd
  refine ⟨fun x y hx hy => ?_, fun i s e => ?_, C.inj, fun j hj => ?_, fun i s e => ⟨Nat.lt_of_lt_of_le (C.low i s e).1 hsz, Nat.le_trans (C.low i s e).2 hd.2.2.1⟩, fun i s hi e => ?_, ?_⟩
  · have hi := C.idle x y hx (hoth x y hx hy)
    cases es' : X x with
    | none => rw [es'] at hi; exact ⟨hi.1, by rw [Deaf_other T (fun z => hx z.symm) _ hops]; exact hi.2⟩
    | some s => rw [es'] at hi; exact hi
  · obtain ⟨k, hk⟩ := C.chans i s e
    exact ⟨k, by rw [hd.2.1 _ (G.chan i s e)]; exact hk⟩
  · by_cases e : j = h
    · subst e; rw [hdf T]; exact C.above j (Nat.le_trans hsz hj)
    · rw [Deaf_other T (fun z => e z.symm) _ hops]; exact C.above j (Nat.le_trans hsz hj)
  · intro p hp
    rw [hd.1 _ (G.cell i s e p hp)]
    exact C.keep i s hi e p hp
  · refine (C.past.raise hd.2.2.1).appH (fun g hg => hg.2) hops (fun op hop b hb hw g ⟨s, e⟩ ⟨s', e', p, hp, hr⟩ => ?_) (hdf T)
    exact hs op hop b hb hw _ (G.cell g s' e' p hp) hr
/-- The holder's own step. -/
theorem Co.own (G : Guarded X Pa Pc) (C : Co P X h T gs w q) {a a' : Goroutine} {w' : World} {es : Array Event} (ha : gs[h]? = some a) (hd : DZ Pa Pc w w' es) :
    Co P X h (T ++ MemOp.ofEvents h a.frame.fn a.frame.place es) ((gs.map (woken P a a' w')).setIfInBounds h a') w' q ∧ ((gs.map (woken P a a' w')).setIfInBounds h a')[h]? = some a' := by
  have hlt : h < gs.size := (Array.getElem?_eq_some_iff.1 ha).1
  have C0 := Co.turned (gs' := gs) G C hd a.frame.fn a.frame.place (Nat.le_refl _) (fun x y _ hy => hy)
  refine ⟨Co.turned (gs' := (gs.map (woken P a a' w')).setIfInBounds h a') G C hd a.frame.fn a.frame.place (by simp) (fun x y hx hy => ?_), Array.getElem?_setIfInBounds_self_of_lt (by simpa using hlt)⟩
  rw [Array.getElem?_setIfInBounds_ne (fun e => hx e.symm), Array.getElem?_map] at hy
  obtain ⟨y₀, hy₀, rfl⟩ := Option.map_eq_some_iff.1 hy
  rw [woken_of_again (C0.fixed hx hy₀)]
  exact hy₀
/-- T1: THE HOLDER's WALK, ON WHATEVER TAPE. -/
theorem hold {Z : Goroutine → World → Nat → Prop} (G : Guarded X Pa Pc) {a : Goroutine} {n : Nat} (hG : Gz P (h == 0) (DZ Pa Pc) Z a w n) :
    ∀ {gs : Array Goroutine} {sl : Option (Nat × Nat)} {T : Trace} {q : Nat → Nat}, gs[h]? = some a → Co P X h T gs w q →
    ∃ (N : Nat) (gs' : Array Goroutine) (a' : Goroutine) (w' : World) (sl' : Option (Nat × Nat)) (T' : Trace) (q' : Nat → Nat),
      runNT P N (crowd gs w sl) T = (.next (crowd gs' w' sl'), T') ∧ gs'.size = gs.size ∧ gs'[h]? = some a' ∧ Z a' w' n ∧ Co P X h T' gs' w' q' := by
  refine hG.ind (I := fun a w n => ∀ {gs : Array Goroutine} {sl : Option (Nat × Nat)} {T : Trace} {q : Nat → Nat}, gs[h]? = some a → Co P X h T gs w q →
    ∃ (N : Nat) (gs' : Array Goroutine) (a' : Goroutine) (w' : World) (sl' : Option (Nat × Nat)) (T' : Trace) (q' : Nat → Nat),
      runNT P N (crowd gs w sl) T = (.next (crowd gs' w' sl'), T') ∧ gs'.size = gs.size ∧ gs'[h]? = some a' ∧ Z a' w' n ∧ Co P X h T' gs' w' q') ?_ ?_
  · intro g w n hz gs sl T q ha C
    exact ⟨0, gs, g, w, sl, T, q, rfl, rfl, ha, by have := hz w.drawn; exact this, C⟩
  · intro g w n hrun hs gs sl T q ha C
    -- the bystanders go till the holder is picked
    have key : ∀ (M : Nat) (gs : Array Goroutine) (d₀ : Nat) (sl : Option (Nat × Nat)) (T : Trace) (q : Nat → Nat), sumTo gs.size q ≤ M → gs[h]? = some g → Co P X h T gs (w.at d₀) q →
        ∃ (N : Nat) (gs' : Array Goroutine) (a' : Goroutine) (w' : World) (sl' : Option (Nat × Nat)) (T' : Trace) (q' : Nat → Nat),
          runNT P N (crowd gs (w.at d₀) sl) T = (.next (crowd gs' w' sl'), T') ∧ gs'.size = gs.size ∧ gs'[h]? = some a' ∧ Z a' w' n ∧ Co P X h T' gs' w' q' := by
      intro M
      induction M using Nat.strongRecOn with
      | _ M ih =>
        intro gs d₀ sl T q hM ha C
        obtain ⟨i, gi, d, sl', hi, hg, hst⟩ := crowd_pick (P := P) (w := w.at d₀) (sl := sl) (C.awake ha (.inl hrun)) ⟨h, g, ha, hrun⟩
        rw [at_at'] at hst
        have Cd : Co P X h T gs (w.at d) q := C.at d
        by_cases e : i = h
        · subst e
          obtain rfl : gi = g := by rw [ha] at hi; exact (Option.some.inj hi).symm
          obtain ⟨g', w', es, hgo, hd, _, hnext⟩ := hs d
          obtain ⟨C', ha'⟩ := Cd.own (a' := g') G hi hd
          rw [hd.hears] at hnext
          obtain ⟨N, gs', a', w'', sl'', T', q', hr, hsz, h1, h2, h3⟩ := hnext (sl := sl') ha' C'
          refine ⟨N + 1, gs', a', w'', sl'', T', q', ?_, by simpa using hsz, h1, h2, h3⟩
          have := runT_crowd_go (sl := sl') hi hgo
          simp only [runNT, hst, this]
          exact hr
        · obtain ⟨gs', ops, q', hrt, hsz', hsp, _, _, C', hlt⟩ := Co.by_step (sl := sl') Cd hi e hg
            (fun x hx => by rw [ha] at hx; obtain rfl := Option.some.inj hx; exact again_of_running (.inl hrun) _)
            (fun s g₂ _ _ x hx => by rw [ha] at hx; obtain rfl := Option.some.inj hx; exact offersAt_of_not_blocked (by rw [hrun]; simp) _ _)
          obtain ⟨N, gs'', a', w'', sl'', T', q'', hr, hsz, h1, h2, h3⟩ := ih (sumTo gs'.size q') (by rw [hsz']; omega) gs' d sl' (T ++ ops) q' (Nat.le_refl _) (by rw [hsp]; exact ha) C'
          refine ⟨N + 1, gs'', a', w'', sl'', T', q'', ?_, hsz.trans hsz', h1, h2, h3⟩
          simp only [runNT, hst, hrt]
          exact hr
    exact key _ gs w.drawn sl T q (Nat.le_refl _) ha C
theorem Co.memB (C : Co P X h T gs w q) {i : Nat} {s : St} (e : X i = some s) : s.c < w.heap.size := by
  obtain ⟨k, hk⟩ := C.chans i s e
  exact (Array.getElem?_eq_some_iff.1 hk).1
/-- Where the token has come to goroutine j. -/
def Given (P : Program) (X' : Nat → Option St) (j : Nat) (s : St) (k n : Nat) (w : World) (v : Value) (m : Machine) (t : Trace) : Prop :=
  ∃ (gs' : Array Goroutine) (g₂ : Goroutine) (d : Nat) (sl' : Option (Nat × Nat)) (q' : Nat → Nat), m = crowd gs' ((w.at d).setChan s.c 0 #[] false (k + 1) (k + 1) false) sl' ∧ gs'.size = n ∧
      gs'[j]? = some (Go.Conc.served g₂ v) ∧ s.home g₂ ∧ Co P X' j t gs' ((w.at d).setChan s.c 0 #[] false (k + 1) (k + 1) false) q'
set_option maxHeartbeats 1600000 in
/-- T2: THE HOLDER STANDS AT A SEND ON j's CHANNEL; behind it it sits or leaves: the token comes to j. -/
theorem give (G : Guarded X Pa Pc) {a a₂ : Goroutine} {j : Nat} {s : St} {v z' : Value} {es : Array Event} {sl : Option (Nat × Nat)} (hjh : j ≠ h) (hj : X j = some s) (ha : gs[h]? = some a) (hrun : a.status = .running)
    (hsend : ∀ d, stepG P (h == 0) a (w.at d) = .comm a₂ #[scase s.c v z'] true .send (w.at d) es) (hes : DZ Pa Pc w w es) (C : Co P X h T gs w q)
    {X' : Nat → Option St} (hI : ∀ x, x ≠ h → X' x = X x) (hIh : X' h = X h ∨ X' h = none) (hkh : ∀ t, X' h = some t → t.keep w) {nh : Nat} (hafter : ∀ T', Deaf T' h = 0 → IdleS P T' h nh (Go.Conc.served a₂ undef) (X' h)) :
    ∃ (N : Nat) (gs' : Array Goroutine) (g₂ : Goroutine) (d k : Nat) (sl' : Option (Nat × Nat)) (T' : Trace) (q' : Nat → Nat), runNT P N (crowd gs w sl) T = (.next (crowd gs' ((w.at d).setChan s.c 0 #[] false (k + 1) (k + 1) false) sl'), T') ∧ gs'.size = gs.size ∧
      gs'[j]? = some (Go.Conc.served g₂ v) ∧ s.home g₂ ∧ w.heap[s.c]? = some (.chan 0 #[] false k k false) ∧ Co P X' j T' gs' ((w.at d).setChan s.c 0 #[] false (k + 1) (k + 1) false) q' := by
  obtain ⟨k, hc⟩ := C.chans j s hj
  have hjlt : j < gs.size := (C.low j s hj).1
  have hcB := C.memB hj
  have hu : ∀ (m : Nat) (cc : CommCase), m ≠ 0 → s.seat.cases[m]? = some cc → cc.chan ≠ .chan (some s.c) := by
    intro m cc hm hcc
    rcases m with _ | m
    · exact absurd rfl hm
    · simp [St.seat, Seat.one] at hcc
  have hk : s.seat.cases[0]? = some (rcase s.c (.agg #[])) := rfl
  have hcr : commResult s.seat.cases s.seat.shape ((0 : Nat) : Int) v true = v := rfl
  suffices hh : ∃ N m' T', runNT P N (crowd gs w sl) T = (.next m', T') ∧ Given P X' j s k gs.size w v m' T' by
    obtain ⟨N, m', T', hr, gs', g₂, d, sl', q', rfl, h1, h2, h3, h4⟩ := hh
    exact ⟨N, gs', g₂, d, k, sl', T', q', hr, h1, h2, h3, hc, h4⟩
  refine runs_until (P := P)
    (Inv := fun μ m t => Given P X' j s k gs.size w v m t ∨ ∃ gs₁ d sl₁ q₁, ∃ pk : Bool, m = crowd gs₁ (w.at d) sl₁ ∧ gs₁.size = gs.size ∧ gs₁[h]? = some (if pk then parked a₂ #[scase s.c v z'] .send else a) ∧
      Co P X h t gs₁ (w.at d) q₁ ∧ (pk = true → 0 < q₁ j) ∧ μ = sumTo gs₁.size q₁ + (if pk then 0 else 1))
    (fun μ m t hInv => ?_) _ _ T (.inr ⟨gs, w.drawn, sl, q, false, rfl, rfl, ha, C, by simp, rfl⟩)
  rcases hInv with hdone | ⟨gs₁, d, sl₁, q₁, pk, rfl, hsz, ha₁, C₁, hpk, hμ⟩
  · exact .inl hdone
  refine .inr ?_
  obtain ⟨gj, hgj⟩ : ∃ gj, gs₁[j]? = some gj := ⟨gs₁[j]'(by omega), Array.getElem?_eq_getElem (by omega)⟩
  have hlth : h < gs₁.size := (Array.getElem?_eq_some_iff.1 ha₁).1
  have hSj : SitsS P (j == 0) s (q₁ j) gj := by have := C₁.idle j gj hjh hgj; rwa [hj] at this
  have hsome : ∃ (i : Nat) (g : Goroutine), gs₁[i]? = some g ∧ g.status = .running := by
    cases pk with
    | false => exact ⟨h, a, ha₁, hrun⟩
    | true => exact ⟨j, gj, hgj, (SitsS.status (C₁.keep j s hjh hj) hSj).elim (·.1) (fun z => by have := hpk rfl; omega)⟩
  obtain ⟨i, g, d', sl', hi, hg, hst⟩ := crowd_pick (P := P) (w := w.at d) (sl := sl₁) (C₁.awake ha₁ (by cases pk <;> simp [hrun, parked])) hsome
  rw [at_at'] at hst
  have Cd : Co P X h t gs₁ (w.at d') q₁ := C₁.at d'
  have hcd : (w.at d').heap[s.c]? = some (.chan 0 #[] false k k false) := hc
  have hesd : DZ Pa Pc (w.at d') (w.at d') es := hes
  -- behind either meeting
  have fin : ∀ (gs' : Array Goroutine) (ops₀ : Array MemOp) (g₂ : Goroutine), gs'.size = gs₁.size → (∀ x, x ≠ h → x ≠ j → gs'[x]? = gs₁[x]?) → gs'[h]? = some (Go.Conc.served a₂ undef) → gs'[j]? = some (Go.Conc.served g₂ v) → s.home g₂ →
      PT (fun g l => ∃ s, X g = some s ∧ s.rd l) (fun g => ∃ s, X g = some s) (fun g => g ≠ h ∧ ∃ s, X g = some s) w.heap.size h (t ++ ops₀) → (∀ x, Deaf (t ++ ops₀) x = Deaf t x) →
      Given P X' j s k gs.size w v (crowd gs' ((w.at d').setChan s.c 0 #[] false (k + 1) (k + 1) false) sl') (t ++ (ops₀ ++ met h j a₂.frame.fn a₂.frame.place g₂.frame.fn g₂.frame.place s.c k 0)) := by
    intro gs' ops₀ g₂ hsz' hoth hH hJ hhome p1 hD0
    have hDeaf : ∀ x, Deaf (t ++ (ops₀ ++ met h j a₂.frame.fn a₂.frame.place g₂.frame.fn g₂.frame.place s.c k 0)) x = Deaf t x := fun x => by rw [← Array.append_assoc, Deaf_quiet (met_quiet _ _ _ _ _ _ _ _ _ x), hD0]
    have p2 := p1.give ⟨s, hj⟩ a₂.frame.fn a₂.frame.place g₂.frame.fn g₂.frame.place k 0 hcB
    rw [Array.append_assoc] at p2
    have hsub : ∀ i s', X' i = some s' → X i = some s' := by
      intro i s' e
      by_cases hi : i = h
      · subst hi
        rcases hIh with z | z
        · rw [← z]; exact e
        · rw [z] at e; cases e
      · rw [← hI i hi]; exact e
    refine ⟨gs', g₂, d', sl', upd q₁ h nh, rfl, hsz'.trans hsz, hJ, hhome, ⟨fun x y hx hy => ?_, fun i s' e => ?_, fun i i' s₁ s₂ e₁ e₂ => C₁.inj i i' s₁ s₂ (hsub _ _ e₁) (hsub _ _ e₂), fun x hx => by rw [hDeaf]; exact C₁.above x (by omega), fun i s' e => ?_, fun i s' hi e => ?_, ?_⟩⟩
    · by_cases e : x = h
      · subst e
        rw [hH] at hy
        obtain rfl := Option.some.inj hy
        rw [upd_same]; exact hafter _ (by rw [hDeaf]; exact C₁.past.hears _ (.inr rfl))
      · rw [hoth x e hx] at hy
        rw [upd_ne q₁ nh e, hI x e]
        have hi := C₁.idle x y e hy
        cases es : X x with
        | none => rw [es] at hi; exact ⟨hi.1, by rw [hDeaf]; exact hi.2⟩
        | some s' => rw [es] at hi; exact hi
    · obtain ⟨k', hk'⟩ := Cd.chans i s' (hsub _ _ e)
      by_cases ec : s.c = s'.c
      · exact ⟨k + 1, by rw [← ec]; exact heap_setChan_self _ hcd _ _ _ _ _ _⟩
      · exact ⟨k', by rw [heap_setChan_ne _ _ _ _ _ _ _ ec]; exact hk'⟩
    · refine ⟨by rw [hsz']; exact (C₁.low i s' (hsub _ _ e)).1, ?_⟩
      have := (Cd.low i s' (hsub _ _ e)).2
      simpa [World.setChan] using this
    · by_cases ei : i = h
      · subst ei
        exact keep_setChan hcd (hkh s' e) _ _ _ _ _ _
      · exact keep_setChan hcd (Cd.keep i s' ei (hsub _ _ e)) _ _ _ _ _ _
    · have hsz2 : ((w.at d').setChan s.c 0 #[] false (k + 1) (k + 1) false).heap.size = w.heap.size := by simp [World.setChan, World.at]
      rw [hsz2]
      refine ⟨p2.clean, fun p a ha hm => (p2.known p a ha hm).imp id fun ⟨x, g, hg, ⟨⟨hgh, hs⟩, hgj⟩, hR⟩ => ⟨x, g, hg, ⟨hgj, by rw [hI g hgh]; exact hs⟩, by rw [hI g hgh]; exact hR⟩, fun p a ha hw g ⟨s', e⟩ ⟨s'', e', hr⟩ => p2.wrote p a ha hw g ⟨s', hsub _ _ e⟩ ⟨s'', hsub _ _ e', hr⟩, fun g hg => ?_⟩
      rcases hg with ⟨s', e⟩ | rfl
      · exact p2.hears g (.inl ⟨s', hsub _ _ e⟩)
      · exact p2.hears _ (.inr rfl)
  have hμpos : 0 < μ := by
    cases pk with
    | false => simp at hμ; omega
    | true =>
      have h1 := hpk rfl
      have h2 : q₁ j ≤ sumTo gs₁.size q₁ := Go.ConcN.le_sumTo (f := q₁) (by omega)
      simp at hμ; omega
  by_cases e : i = h
  · -- the holder's step
    subst e
    cases pk with
    | true => rw [ha₁] at hi; obtain rfl := Option.some.inj hi; cases hg
    | false =>
      obtain rfl : g = a := by rw [ha₁] at hi; exact (Option.some.inj hi).symm
      obtain ⟨hops, hs, hdf⟩ := dz_ops (i := i) (fn := g.frame.fn) (pos := g.frame.place) hesd
      have hoff : ∀ (x : Nat) (y : Goroutine), x ≠ j → (gs₁.setIfInBounds i ph)[x]? = some y → offersAt y s.c false = [] := by
        intro x y hxj hy
        rcases getElem?_stand gs₁ i x y hy with ⟨_, rfl⟩ | ⟨hx, hy'⟩
        · exact offersAt_ph _ _
        · exact Co.noRecvAt Cd hx hy' fun s' hs' hc' => hxj (C₁.inj x j s' s hs' hj hc')
      rcases hSj with ⟨kk, w₀, hq, hG⟩ | ⟨hq0, g₀, g₂, rfl, hat⟩
      · have hjr : gj.status = .running := (SitsS.status (C₁.keep j s hjh hj) (.inl ⟨kk, w₀, hq, hG⟩)).elim (·.1) (fun z => by omega)
        have hp : partners (gs₁.setIfInBounds i ph) s.c false = [] := partners_nil fun x y hy => by
          by_cases hxj : x = j
          · subst hxj
            rw [stand_get hjh hgj] at hy
            obtain rfl := Option.some.inj hy
            exact offersAt_of_not_blocked (by rw [hjr]; simp) _ _
          · exact hoff x y hxj hy
        have hw : ∀ cc ∈ #[scase s.c v z'], NoWays (w.at d') (gs₁.setIfInBounds i ph) cc := by
          intro cc hcc
          simp only [List.mem_toArray, List.mem_cons, List.not_mem_nil, or_false] at hcc
          subst hcc
          exact ways_send_none hcd (Nat.le_refl _) hp
        refine ⟨_, _, sumTo gs₁.size q₁ + 0, by rw [hst]; exact crowd_waits (sl := sl') hi (hsend d') hw, by simp at hμ; omega, .inr ⟨_, d', sl', q₁, true, rfl, by simpa using hsz, Array.getElem?_setIfInBounds_self_of_lt hlth, ?_, fun _ => by omega, by simp⟩⟩
        exact Co.turned G Cd hesd g.frame.fn g.frame.place (by simp) fun x y hx hy => by rw [Array.getElem?_setIfInBounds_ne (fun e => hx e.symm)] at hy; exact hy
      · have hp : partners (gs₁.setIfInBounds i ph) s.c false = [(j, 0)] := by
          rw [partners_one (stand_get hjh hgj) fun x y hxj hy => hoff x y hxj hy, offersAt_parked_at hk hu]
          rfl
        refine ⟨_, _, 0, by rw [hst]; exact crowd_send_meets_sel (sl := sl') hi (hsend d') hcd hjh hgj hk hp, hμpos, .inl ?_⟩
        exact fin _ _ g₂ (by simp) (fun x hx hxj => by rw [Array.getElem?_setIfInBounds_ne (fun z => hx z.symm), Array.getElem?_setIfInBounds_ne (fun z => hxj z.symm)]) (Array.getElem?_setIfInBounds_self_of_lt (by simpa using hlth))
          (by rw [Array.getElem?_setIfInBounds_ne (fun z => hjh z.symm), Array.getElem?_setIfInBounds_self_of_lt (by omega), finishComm_served, hcr]) hat.2.2.2.2.1
          (Co.turned G Cd hesd g.frame.fn g.frame.place (Nat.le_refl _) (fun _ _ _ hy => hy)).past
          (fun x => by
            by_cases ex : x = i
            · subst ex; exact hdf t
            · exact Deaf_other t (fun z => ex z.symm) _ hops)
  · by_cases ej : i = j ∧ pk = true ∧ ∃ g₂, AtIn P (i == 0) s.keep s.rd s.B s.seat g g₂
    · obtain ⟨rfl, rfl, g₂, hat⟩ := ej
      obtain ⟨_, _, _, _, hhome, esj, hesj, hstp⟩ := hat
      obtain ⟨hops, hr, hl, hd⟩ := evC_ops (i := i) (fn := g.frame.fn) (pos := g.frame.place) hesj
      have hp : partners (gs₁.setIfInBounds i ph) s.c true = [(h, 0)] := by
        rw [partners_one (stand_get (Ne.symm hjh) ha₁) fun x y hxh hy => by
          rcases getElem?_stand gs₁ i x y hy with ⟨_, rfl⟩ | ⟨_, hy'⟩
          · exact offersAt_ph _ _
          · exact Co.noSend Cd hxh hy' _]
        simp [offersAt_parked_send]
      have ho : ∀ (m : Nat) (c' : CommCase), m ≠ 0 → s.seat.cases[m]? = some c' → NoWays (w.at d') (gs₁.setIfInBounds i ph) c' := by
        intro m c' hm hc'
        rcases m with _ | m
        · exact absurd rfl hm
        · simp [St.seat, Seat.one] at hc'
      refine ⟨_, _, 0, by rw [hst]; exact crowd_sel_recv_meets (sl := sl') hi (hstp _ (Cd.keep i s hjh hj)) hk ho hcd (Ne.symm hjh) ha₁ hp, hμpos, .inl ?_⟩
      exact fin _ _ g₂ (by simp) (fun x hx hxj => by rw [Array.getElem?_setIfInBounds_ne (fun z => hxj z.symm), Array.getElem?_setIfInBounds_ne (fun z => hx z.symm)])
        (by rw [Array.getElem?_setIfInBounds_ne hjh, Array.getElem?_setIfInBounds_self_of_lt hlth, finishComm_send]) (by rw [Array.getElem?_setIfInBounds_self_of_lt (by simp; omega), finishComm_served, hcr]) hhome
        (C₁.past.appRead ⟨s, hj⟩ ⟨hjh, s, hj⟩ hops (fun op hop b hb => ⟨(hr op hop b hb).1, s, hj, (hr op hop b hb).2⟩) (hd t))
        (fun x => by
          by_cases ex : x = i
          · subst ex; exact hd t
          · exact Deaf_other t (fun z => ex z.symm) _ hops)
    · obtain ⟨gs', ops, q', hrt, hsz', hsp, hqo, hq0, C', hlt⟩ := Co.by_step (sl := sl') Cd hi e hg
        (fun x hx => by
          rw [ha₁] at hx; obtain rfl := Option.some.inj hx
          cases pk with
          | false => exact again_of_running (.inl hrun) _
          | true => exact again_send_open hcd)
        (fun s' g₂ hs' hat x hx => by
          rw [ha₁] at hx; obtain rfl := Option.some.inj hx
          cases pk with
          | false => exact offersAt_of_not_blocked (by simp [hrun]) _ _
          | true =>
            simp only [if_true]
            rw [offersAt_parked_send, if_neg]
            intro ec
            have hij : i = j := C₁.inj i j s' s hs' hj ec.symm
            subst hij
            rw [hj] at hs'
            obtain rfl := Option.some.inj hs'
            exact ej ⟨rfl, rfl, g₂, hat⟩)
      refine ⟨_, _, sumTo gs'.size q' + (if pk then 0 else 1), by rw [hst]; exact hrt, by rw [hsz']; omega, .inr ⟨gs', d', sl', q', pk, rfl, hsz'.trans hsz, by rw [hsp]; exact ha₁, C', fun hp => ?_, rfl⟩⟩
      subst hp
      by_cases hij : j = i
      · subst hij
        rcases Nat.eq_zero_or_pos (q' j) with h0 | h0
        · obtain ⟨g₂, hat⟩ := hq0 s hj h0
          exact absurd ⟨rfl, rfl, g₂, hat⟩ ej
        · exact h0
      · rw [hqo j hij]; exact hpk rfl
end
end Go.Proofs.Ytekmbijlaonnmaa.Z
