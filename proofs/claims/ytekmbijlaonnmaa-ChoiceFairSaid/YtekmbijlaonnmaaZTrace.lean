/-
  The trace's side of a run in which one goroutine at a time holds the token: no data race, the holder knows every touch but reads of places that nobody writes; each goroutine that sits has places of its own that it may read while it does not hold.
-/
import Derived.Conc.Token
set_option linter.unusedSimpArgs false
set_option linter.unusedVariables false
namespace Go.Proofs.Ytekmbijlaonnmaa.Z
open Go.Conc
/-- What is held of the trace while goroutine h holds the token. Mem: who sits; Lo: who sits and does not hold; Rd g: the places that g may read while it does not hold. -/
structure PT (Rd : Nat → Loc → Prop) (Mem Lo : Nat → Prop) (B h : Nat) (t : Trace) : Prop where
  clean : ∀ said, ¬ Race said t
  known : ∀ p a, touchAt t p = some a → a.loc.isMemory = true → Knows t h p ∨ (a.write = false ∧ ∃ g, t.g? p = some g ∧ Lo g ∧ Rd g a.loc)
  wrote : ∀ p a, touchAt t p = some a → a.write = true → ∀ g, Mem g → Rd g a.loc → Knows t g p
  hears : ∀ g, (Mem g ∨ g = h) → Deaf t g = 0
section
variable {Rd Rd' : Nat → Loc → Prop} {Mem Mem' Lo Lo' : Nat → Prop} {B B' h j c : Nat} {t u : Trace}
theorem PT.raise (H : PT Rd Mem Lo B h t) (hB : B ≤ B') : PT Rd Mem Lo B' h t := ⟨H.clean, H.known, H.wrote, H.hears⟩
theorem PT.fewer (H : PT Rd Mem Lo B h t) (hM : ∀ g, Mem' g → Mem g) : PT Rd Mem' Lo B h t :=
  ⟨H.clean, H.known, fun p a ha hw g hg => H.wrote p a ha hw g (hM g hg), fun g hg => H.hears g (hg.imp (hM g) id)⟩
theorem PT.loosen (H : PT Rd Mem Lo B h t) (hL : ∀ g, Lo g → Lo' g) : PT Rd Mem Lo' B h t :=
  ⟨H.clean, fun p a ha hm => (H.known p a ha hm).imp id fun ⟨x, g, hg, hl, hr⟩ => ⟨x, g, hg, hL g hl, hr⟩, H.wrote, H.hears⟩
/-- More places may be read, where nobody has written them but who is known to the reader. -/
theorem PT.grow (H : PT Rd Mem Lo B h t) (h1 : ∀ g l, Rd g l → Rd' g l) (h2 : ∀ p a, touchAt t p = some a → a.write = true → ∀ g, Mem g → Rd' g a.loc → ¬ Rd g a.loc → Knows t g p) : PT Rd' Mem Lo B h t :=
  ⟨H.clean, fun p a ha hm => (H.known p a ha hm).imp id fun ⟨x, g, hg, hl, hr⟩ => ⟨x, g, hg, hl, h1 _ _ hr⟩, fun p a ha hw g hg hr => by
    by_cases e : Rd g a.loc
    · exact H.wrote p a ha hw g hg e
    · exact h2 p a ha hw g hg hr e, H.hears⟩
theorem PT.old_known (H : PT Rd Mem Lo B h t) {p : Nat} {a : Touch} {x : MemOp} (hx' : t[p]? = some x) (hxa : x.act.touch? = some a) (hm : a.loc.isMemory = true) :
    Knows (t ++ u) h p ∨ (a.write = false ∧ ∃ g, (t ++ u).g? p = some g ∧ Lo g ∧ Rd g a.loc) :=
  (H.known p a (by rw [touchAt_of hx']; exact hxa) hm).imp (Knows.app u) fun ⟨p', g, hg, hl⟩ => ⟨p', g, by rw [Go.Conc.g?_old (lt_size_of_getElem? hx')]; exact hg, hl⟩
theorem PT.old_hears (H : PT Rd Mem Lo B h t) {g : Nat} (hu : ∀ op ∈ u, op.g = g) (hd : (Mem g ∨ g = h) → Deaf (t ++ u) g = Deaf t g) : ∀ g', (Mem g' ∨ g' = h) → Deaf (t ++ u) g' = 0 := fun g' hg' => by
  by_cases e : g' = g
  · subst e; exact (hd hg').trans (H.hears g' hg')
  · exact (Deaf_other t (fun x => e x.symm) u hu).trans (H.hears g' hg')
/-- Operations of one goroutine that touch nothing. -/
theorem PT.appMute {g : Nat} (H : PT Rd Mem Lo B h t) (hu : ∀ op ∈ u, op.g = g) (hn : ∀ op ∈ u, op.act.touch? = none) (hd : (Mem g ∨ g = h) → Deaf (t ++ u) g = Deaf t g) : PT Rd Mem Lo B h (t ++ u) := by
  refine ⟨fun said => noRace_appendMute (H.clean said) hn, fun i a ha hm => ?_, fun i a ha hw g' hg' hr => ?_, H.old_hears hu hd⟩
  · obtain ⟨x, hx, hxa⟩ := touch_of ha
    rcases getElem?_append_cases hx with ⟨_, hx'⟩ | ⟨_, hxu⟩
    · exact H.old_known hx' hxa hm
    · rw [hn x hxu] at hxa; cases hxa
  · obtain ⟨x, hx, hxa⟩ := touch_of ha
    rcases getElem?_append_cases hx with ⟨_, hx'⟩ | ⟨_, hxu⟩
    · exact (H.wrote i a (by rw [touchAt_of hx']; exact hxa) hw g' hg' hr).app u
    · rw [hn x hxu] at hxa; cases hxa
/-- One who sits and does not hold reads its places. -/
theorem PT.appRead {g : Nat} (H : PT Rd Mem Lo B h t) (hg : Mem g) (hL : Lo g) (hu : ∀ op ∈ u, op.g = g) (hr : ∀ op ∈ u, ∀ b, op.act.touch? = some b → b.write = false ∧ Rd g b.loc) (hd : Deaf (t ++ u) g = Deaf t g)
    : PT Rd Mem Lo B h (t ++ u) := by
  refine ⟨fun said => noRace_append (H.clean said) hu fun i a ha op hop b hb hc => ?_, fun i a ha hm => ?_, fun i a ha hw g' hg' hr' => ?_, H.old_hears hu (fun _ => hd)⟩
  · obtain ⟨hb0, hbS⟩ := hr op hop b hb
    rcases hc.2.2.1 with x | x
    · exact H.wrote i a ha x g hg (hc.1 ▸ hbS)
    · rw [hb0] at x; cases x
  · obtain ⟨x, hx, hxa⟩ := touch_of ha
    rcases getElem?_append_cases hx with ⟨_, hx'⟩ | ⟨_, hxu⟩
    · exact H.old_known hx' hxa hm
    · exact .inr ⟨(hr x hxu a hxa).1, g, by rw [g?_of hx, hu x hxu], hL, (hr x hxu a hxa).2⟩
  · obtain ⟨x, hx, hxa⟩ := touch_of ha
    rcases getElem?_append_cases hx with ⟨_, hx'⟩ | ⟨_, hxu⟩
    · exact (H.wrote i a (by rw [touchAt_of hx']; exact hxa) hw g' hg' hr').app u
    · rw [(hr x hxu a hxa).1] at hw; cases hw
/-- The holder's own operations: whatever, but no write of a place that somebody may read. -/
theorem PT.appH (H : PT Rd Mem Lo B h t) (hLo : ∀ g, Lo g → Mem g) (hu : ∀ op ∈ u, op.g = h) (hs : ∀ op ∈ u, ∀ b, op.act.touch? = some b → b.write = true → ∀ g, Mem g → ¬ Rd g b.loc) (hd : Deaf (t ++ u) h = Deaf t h) :
    PT Rd Mem Lo B h (t ++ u) := by
  refine ⟨fun said => noRace_append (H.clean said) hu fun i a ha op hop b hb hc => ?_, fun i a ha hm => ?_, fun i a ha hw g hg hr => ?_, H.old_hears hu (fun _ => hd)⟩
  · rcases H.known i a ha hc.2.1 with hk | ⟨hw, g, _, hl', hR⟩
    · exact hk
    · rcases hc.2.2.1 with x | x
      · rw [hw] at x; cases x
      · exact absurd (hc.1 ▸ hR) (hs op hop b hb x g (hLo g hl'))
  · obtain ⟨x, hx, hxa⟩ := touch_of ha
    rcases getElem?_append_cases hx with ⟨_, hx'⟩ | ⟨_, hxu⟩
    · exact H.old_known hx' hxa hm
    · have := knows_own hx
      rw [hu x hxu] at this
      exact .inl this
  · obtain ⟨x, hx, hxa⟩ := touch_of ha
    rcases getElem?_append_cases hx with ⟨_, hx'⟩ | ⟨_, hxu⟩
    · exact (H.wrote i a (by rw [touchAt_of hx']; exact hxa) hw g hg hr).app u
    · exact absurd hr (hs x hxu a hxa hw g hg)
/-- THE TOKEN PASSES: a send is met: the taker knows all that the giver knew. -/
theorem PT.give (H : PT Rd Mem Lo B h t) (hj : Mem j) (fh : FuncId) (ph : String) (fj : FuncId) (pj : String) {c : Nat} (k cap : Nat) (hc : c < B) :
    PT Rd Mem (fun g => Lo g ∧ g ≠ j) B j (t ++ met h j fh ph fj pj c k cap) := by
  have hn := met_mute h j fh ph fj pj c k cap
  have hq := met_quiet h j fh ph fj pj c k cap
  have e0 : (t ++ met h j fh ph fj pj c k cap)[t.size]? = some { g := h, fn := fh, pos := ph, act := .send c k } := by simp [met]
  have e3 : (t ++ met h j fh ph fj pj c k cap)[t.size + 3]? = some { g := j, fn := fj, pos := pj, act := .recvDone c k } := by simp [met]
  have edge : HappensBefore (t ++ met h j fh ph fj pj c k cap) t.size (t.size + 3) :=
    Relation.TransGen.single (.inr ⟨.handOver (act?_of e0) (act?_of e3), ⟨h, g?_of e0, by rw [deaf_old (Nat.le_refl _)]; exact H.hears h (.inr rfl)⟩, ⟨j, g?_of e3, by rw [deaf_quiet (hq j) 3 (by simp [met])]; exact H.hears j (.inl hj)⟩⟩)
  refine ⟨fun said => noRace_appendMute (H.clean said) hn, fun i a ha hm => ?_, fun i a ha hw g hg hr => ?_, fun g hg => (Deaf_quiet (hq g)).trans (H.hears g (hg.elim .inl fun e => .inl (e ▸ hj)))⟩
  · obtain ⟨x, hx, hxa⟩ := touch_of ha
    rcases getElem?_append_cases hx with ⟨hi, hx'⟩ | ⟨_, hxu⟩
    · rcases H.known i a (by rw [touchAt_of hx']; exact hxa) hm with hk | ⟨p, g, hg, hl, hR⟩
      · exact .inl ⟨t.size + 3, _, e3, rfl, .inr ((hk.hb_new (Nat.le_refl _) e0 rfl).trans edge)⟩
      · by_cases e : g = j
        · subst e
          have := knows_own hx
          rw [show x.g = g from by have := g?_of hx'; rw [hg] at this; exact (Option.some.inj this).symm] at this
          exact .inl this
        · exact .inr ⟨p, g, by rw [Go.Conc.g?_old hi]; exact hg, ⟨hl, e⟩, hR⟩
    · rw [hn x hxu] at hxa; cases hxa
  · obtain ⟨x, hx, hxa⟩ := touch_of ha
    rcases getElem?_append_cases hx with ⟨_, hx'⟩ | ⟨_, hxu⟩
    · exact (H.wrote i a (by rw [touchAt_of hx']; exact hxa) hw g hg hr).app _
    · rw [hn x hxu] at hxa; cases hxa
/-- A go statement of the holder's: the child knows all that the holder knew: whatever places it may read. -/
theorem PT.hire (H : PT Rd Mem Lo B h t) (hc0 : Deaf t c = 0) (hch : c ≠ h) (fh : FuncId) (ph : String) (fc : FuncId) (L : Loc → Prop) (hRc : ∀ l, Rd c l → L l)
    (hL : ∀ p a, touchAt t p = some a → a.write = true → L a.loc → Knows t h p) (hLm : ∀ l, L l → l.isMemory = true) :
    PT (fun g l => Rd g l ∨ (g = c ∧ L l)) (fun g => Mem g ∨ g = c) (fun g => Lo g ∨ g = c) B h (t ++ #[{ g := h, fn := fh, pos := ph, act := .go c }, { g := c, fn := fc, pos := ph, act := .start }]) := by
  generalize hu : (#[{ g := h, fn := fh, pos := ph, act := .go c }, { g := c, fn := fc, pos := ph, act := .start }] : Trace) = u
  have hn : ∀ op ∈ u, op.act.touch? = none := by
    intro op hop
    subst hu
    simp only [List.mem_toArray, List.mem_cons, List.not_mem_nil, or_false] at hop
    rcases hop with rfl | rfl <;> rfl
  have hq : ∀ g, ∀ op ∈ u, ∀ d, deafStep g d op = d := by
    intro g op hop d
    subst hu
    simp only [List.mem_toArray, List.mem_cons, List.not_mem_nil, or_false] at hop
    rcases hop with rfl | rfl <;> rfl
  have e0 : (t ++ u)[t.size]? = some { g := h, fn := fh, pos := ph, act := .go c } := by subst hu; simp
  have e1 : (t ++ u)[t.size + 1]? = some { g := c, fn := fc, pos := ph, act := .start } := by subst hu; simp
  have edge : HappensBefore (t ++ u) t.size (t.size + 1) :=
    Relation.TransGen.single (.inr ⟨.spawn (act?_of e0) (act?_of e1) (g?_of e1), ⟨h, g?_of e0, by rw [deaf_old (Nat.le_refl _)]; exact H.hears h (.inr rfl)⟩, ⟨c, g?_of e1, by rw [deaf_quiet (hq c) 1 (by subst hu; simp)]; exact hc0⟩⟩)
  refine ⟨fun said => noRace_appendMute (H.clean said) hn, fun i a ha hm => ?_, fun i a ha hw g hg hr => ?_, fun g hg => (Deaf_quiet (hq g)).trans (by
    rcases hg with (hg | rfl) | rfl
    · exact H.hears g (.inl hg)
    · exact hc0
    · exact H.hears _ (.inr rfl))⟩
  · obtain ⟨x, hx, hxa⟩ := touch_of ha
    rcases getElem?_append_cases hx with ⟨_, hx'⟩ | ⟨_, hxu⟩
    · exact (H.old_known hx' hxa hm).imp id fun ⟨p, g, hg, hl, hR⟩ => ⟨p, g, hg, .inl hl, .inl hR⟩
    · rw [hn x hxu] at hxa; cases hxa
  · obtain ⟨x, hx, hxa⟩ := touch_of ha
    rcases getElem?_append_cases hx with ⟨_, hx'⟩ | ⟨_, hxu⟩
    · have ha' : touchAt t i = some a := by rw [touchAt_of hx']; exact hxa
      by_cases ec : g = c
      · subst ec
        have hk : Knows t h i := hL i a ha' hw (hr.elim (hRc _) (·.2))
        exact ⟨t.size + 1, _, e1, rfl, .inr ((hk.hb_new (Nat.le_refl _) e0 rfl).trans edge)⟩
      · exact (H.wrote i a ha' hw g (hg.resolve_right ec) (hr.resolve_right fun x => ec x.1)).app u
    · rw [hn x hxu] at hxa; cases hxa
/-- From the frame in which all others only leave. -/
theorem PT.ofKnown (h1 : ∀ said, ¬ Race said t) (h2 : ∀ i a, touchAt t i = some a → a.loc.isMemory = true → Knows t 0 i) (h3 : Deaf t 0 = 0) : PT Rd (fun _ => False) (fun _ => False) B 0 t :=
  ⟨h1, fun i a ha hm => .inl (h2 i a ha hm), fun _ _ _ _ _ hg => hg.elim, fun g hg => hg.elim (fun x => x.elim) fun e => e ▸ h3⟩
/-- To that frame: goroutine 0 holds and nobody else sits. -/
theorem PT.knownAll (H : PT Rd Mem Lo B 0 t) (hL : ∀ g, ¬ Lo g) : ∀ i a, touchAt t i = some a → a.loc.isMemory = true → Knows t 0 i :=
  fun i a ha hm => (H.known i a ha hm).elim id fun ⟨_, g, _, hl, _⟩ => absurd hl (hL g)
theorem PT.over (H : PT Rd Mem Lo B 0 t) (hL : ∀ g, ¬ Lo g) : t.HandedOver := by
  intro i g hg hne ⟨x, hx, hm, _⟩
  obtain ⟨q, z, hq, hz, hb⟩ := H.knownAll hL i x hx hm
  rcases hb with rfl | hb
  · rw [g?_of hq, hz] at hg
    exact absurd (Option.some.inj hg).symm hne
  · exact ⟨q, by rw [g?_of hq, hz], hb⟩
end
end Go.Proofs.Ytekmbijlaonnmaa.Z
