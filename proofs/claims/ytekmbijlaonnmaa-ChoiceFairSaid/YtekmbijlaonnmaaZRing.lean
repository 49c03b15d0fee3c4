/-
  The machine's side of a run in which one goroutine at a time holds the token: each other one only leaves, or sits at an unbuffered channel of its own (or is on its way there by reads of places that nobody writes).
-/
import Derived.Test.YtekmbijlaonnmaaZTrace
set_option linter.unusedSimpArgs false
set_option linter.unusedVariables false
namespace Go.Proofs.Ytekmbijlaonnmaa.Z
open Go.Conc
open Go.ConcN (sumTo upd sumTo_upd upd_ne upd_same)
/-- A seat: its channel; the cells that are read on the way there, and what they hold; what is known of the record that stands there. -/
structure St where
  c : Nat
  B : Nat
  cells : List (Addr × Value)
  home : Goroutine → Prop
def St.keep (s : St) (w : World) : Prop := ∀ p ∈ s.cells, w.cell? p.1 = some p.2
def St.rd (s : St) (l : Loc) : Prop := ∃ p ∈ s.cells, l = .cell p.1
def St.seat (s : St) : Seat := Seat.one s.c (.agg #[]) false s.home
def SitsS (P : Program) (main : Bool) (s : St) (n : Nat) (g : Goroutine) : Prop := Sits P main s.keep s.rd s.B s.seat n g
def IdleS (P : Program) (T : Trace) (i n : Nat) (g : Goroutine) : Option St → Prop
  | none => 0 < i ∧ QuitsD P n (Deaf T i) g
  | some s => SitsS P (i == 0) s n g
theorem St.has {s : St} {c : Nat} : s.seat.has c ↔ c = s.c := Seat.one_has
theorem St.keep_at {s : St} {w : World} (d : Nat) (h : s.keep w) : s.keep (w.at d) := h
theorem cell_block {w : World} {a : Addr} {v : Value} (h : w.cell? a = some v) : ∃ c e f, w.heap[a.block]? = some (.cells c e f) := by
  unfold World.cell? at h
  split at h
  · rename_i c e f hh; exact ⟨c, e, f, hh⟩
  · cases h
theorem cell_lt {w : World} {a : Addr} {v : Value} (h : w.cell? a = some v) : a.block < w.heap.size := by
  obtain ⟨c, e, f, hh⟩ := cell_block h
  exact (Array.getElem?_eq_some_iff.1 hh).1
theorem cell?_setChan {w : World} {c : Nat} {a : Addr} (h : a.block ≠ c) (cap : Nat) (buf : Array Value) (cl : Bool) (x y : Nat) (tm : Bool) : (w.setChan c cap buf cl x y tm).cell? a = w.cell? a := by
  unfold World.cell?
  rw [heap_setChan_ne w cap buf cl x y tm (Ne.symm h)]
theorem keep_setChan {s : St} {w : World} {c cap : Nat} {buf : Array Value} {cl : Bool} {x y : Nat} {tm : Bool} (hc : w.heap[c]? = some (.chan cap buf cl x y tm)) (h : s.keep w) (cap' : Nat) (buf' : Array Value) (cl' : Bool) (x' y' : Nat) (tm' : Bool) :
    s.keep (w.setChan c cap' buf' cl' x' y' tm') := fun p hp => by
  have hk := h p hp
  obtain ⟨cc, e, f, hh⟩ := cell_block hk
  rw [cell?_setChan (fun e' => by rw [e', hc] at hh; cases hh)]
  exact hk
/-- THE FRAME: goroutine h holds the token. -/
structure Co (P : Program) (X : Nat → Option St) (h : Nat) (T : Trace) (gs : Array Goroutine) (w : World) (q : Nat → Nat) : Prop where
  idle : ∀ i g, i ≠ h → gs[i]? = some g → IdleS P T i (q i) g (X i)
  chans : ∀ i s, X i = some s → ∃ k, w.heap[s.c]? = some (.chan 0 #[] false k k false)
  inj : ∀ i j s t, X i = some s → X j = some t → s.c = t.c → i = j
  above : ∀ j, gs.size ≤ j → Deaf T j = 0
  low : ∀ i s, X i = some s → i < gs.size ∧ s.B ≤ w.heap.size
  keep : ∀ i s, i ≠ h → X i = some s → s.keep w
  past : PT (fun g l => ∃ s, X g = some s ∧ s.rd l) (fun g => ∃ s, X g = some s) (fun g => g ≠ h ∧ ∃ s, X g = some s) w.heap.size h T
section
variable {P : Program} {X : Nat → Option St} {h : Nat} {T : Trace} {gs : Array Goroutine} {w : World} {q : Nat → Nat}
theorem SitsS.status {main : Bool} {s : St} {n : Nat} {g : Goroutine} (hK : s.keep w) (h : SitsS P main s n g) : (g.status = .running ∧ 0 < n) ∨ (g.status = .blocked ∧ n = 0) := Sits.status hK h
theorem SitsS.again {main : Bool} {s : St} {n : Nat} {g : Goroutine} (hK : s.keep w) (h : SitsS P main s n g) {k : Nat} (hc : w.heap[s.c]? = some (.chan 0 #[] false k k false)) : g.again w = g :=
  Sits.again hK h (Seat.one_wf _ _ _ _) fun c hcc => ⟨0, #[], k, k, false, by rw [St.has.1 hcc]; exact hc⟩
theorem Co.fixed (C : Co P X h T gs w q) {x : Nat} {y : Goroutine} (hx : x ≠ h) (hy : gs[x]? = some y) : y.again w = y := by
  have hi := C.idle x y hx hy
  cases e : X x with
  | none => rw [e] at hi; exact again_of_running hi.2.status w
  | some s =>
    rw [e] at hi
    obtain ⟨k, hk⟩ := C.chans x s e
    exact SitsS.again (C.keep x s hx e) hi hk
theorem Co.noSend (C : Co P X h T gs w q) {x : Nat} {y : Goroutine} (hx : x ≠ h) (hy : gs[x]? = some y) (c : Nat) : offersAt y c true = [] := by
  have hi := C.idle x y hx hy
  cases e : X x with
  | none =>
    rw [e] at hi
    exact offersAt_of_not_blocked (fun hb => by rcases hi.2.status with z | z <;> rw [z] at hb <;> cases hb) c true
  | some s =>
    rw [e] at hi
    rcases hi with ⟨k, w₀, hq, hg⟩ | ⟨_, _, g₂, rfl, _⟩
    · have := (SitsS.status (C.keep x s hx e) (.inl ⟨k, w₀, hq, hg⟩)).elim (·.1) (fun z => by omega)
      exact offersAt_of_not_blocked (fun hb => by rw [this] at hb; cases hb) c true
    · exact offersAt_parked_sends (fun cc hcc => by obtain ⟨c', z', rfl⟩ := (Seat.one_wf s.c _ _ _).recvs cc hcc; rfl) _
theorem Co.noRecvAt (C : Co P X h T gs w q) {x : Nat} {y : Goroutine} (hx : x ≠ h) (hy : gs[x]? = some y) {c : Nat} (hc : ∀ s, X x = some s → s.c ≠ c) : offersAt y c false = [] := by
  have hi := C.idle x y hx hy
  cases e : X x with
  | none =>
    rw [e] at hi
    exact offersAt_of_not_blocked (fun hb => by rcases hi.2.status with z | z <;> rw [z] at hb <;> cases hb) c false
  | some s =>
    rw [e] at hi
    rcases hi with ⟨k, w₀, hq, hg⟩ | ⟨_, _, g₂, rfl, _⟩
    · have := (SitsS.status (C.keep x s hx e) (.inl ⟨k, w₀, hq, hg⟩)).elim (·.1) (fun z => by omega)
      exact offersAt_of_not_blocked (fun hb => by rw [this] at hb; cases hb) c false
    · refine offersAt_parked_off (fun cc hcc ec => ?_) _
      obtain ⟨c', z', rfl⟩ := (Seat.one_wf s.c _ _ _).recvs cc hcc
      have h1 := St.has.1 (Seat.has_of_mem hcc)
      simp only [rcase, Value.chan.injEq, Option.some.injEq] at ec
      exact hc s e (by rw [← h1, ec])
theorem Co.at (C : Co P X h T gs w q) (d : Nat) : Co P X h T gs (w.at d) q := ⟨C.idle, C.chans, C.inj, C.above, C.low, C.keep, C.past⟩
theorem Co.awake (C : Co P X h T gs w q) {a : Goroutine} (ha : gs[h]? = some a) (hs : a.status = .running ∨ a.status = .blocked) : ∀ g ∈ gs, awake g := by
  intro g hg
  obtain ⟨i, hi, rfl⟩ := Array.mem_iff_getElem.1 hg
  by_cases e : i = h
  · subst e
    have : gs[i] = a := by simpa [Array.getElem?_eq_getElem hi] using ha
    rw [this]; exact awake_of (hs.elim .inl fun x => .inr (.inl x))
  · have hid := C.idle i _ e (Array.getElem?_eq_getElem hi)
    cases es : X i with
    | none => rw [es] at hid; exact awake_of (hid.2.status.elim .inl fun x => .inr (.inr x))
    | some s => rw [es] at hid; exact awake_of ((SitsS.status (C.keep i s e es) hid).elim (fun x => .inl x.1) fun x => .inr (.inl x.1))
/-- One bystander's record is laid anew; the world stands. -/
theorem Co.put (C : Co P X h T gs w q) {i n' : Nat} {g' : Goroutine} {ops : Array MemOp} {gs' : Array Goroutine} (hlt : i < gs.size) (hsz : gs'.size = gs.size) (hother : ∀ x, x ≠ i → gs'[x]? = gs[x]?) (hself : gs'[i]? = some g')
    (hops : ∀ op ∈ ops, op.g = i) (hidle : IdleS P (T ++ ops) i n' g' (X i)) (hpast : PT (fun g l => ∃ s, X g = some s ∧ s.rd l) (fun g => ∃ s, X g = some s) (fun g => g ≠ h ∧ ∃ s, X g = some s) w.heap.size h (T ++ ops)) : Co P X h (T ++ ops) gs' w (upd q i n') := by
  refine ⟨fun x y hx hy => ?_, C.chans, C.inj, fun j hj => ?_, fun x s e => by rw [hsz]; exact C.low x s e, C.keep, hpast⟩
  · by_cases e : x = i
    · subst e
      rw [hself] at hy
      obtain rfl := Option.some.inj hy
      rw [upd_same]; exact hidle
    · rw [hother x e] at hy
      rw [upd_ne q n' e]
      have hi := C.idle x y hx hy
      cases es : X x with
      | none => rw [es] at hi; exact ⟨hi.1, by rw [Deaf_other T (fun z => e z.symm) ops hops]; exact hi.2⟩
      | some s => rw [es] at hi; exact hi
  · rw [Deaf_other T (g' := i) (by omega) ops hops]
    exact C.above j (by omega)
/-- A BYSTANDER's STEP: the frame stands, the holder's record and the world are as they were, the measure falls. -/
theorem Co.by_step (C : Co P X h T gs w q) {i : Nat} {g : Goroutine} {sl : Option (Nat × Nat)} (hi : gs[i]? = some g) (hih : i ≠ h) (hrun : g.status = .running)
    (hA : ∀ x, gs[h]? = some x → x.again w = x)
    (hO : ∀ s g₂, X i = some s → AtIn P (i == 0) s.keep s.rd s.B s.seat g g₂ → ∀ x, gs[h]? = some x → offersAt x s.c true = []) :
    ∃ (gs' : Array Goroutine) (ops : Array MemOp) (q' : Nat → Nat), runT P (crowd gs w sl) i = (.next (crowd gs' w sl), ops) ∧ gs'.size = gs.size ∧ gs'[h]? = gs[h]? ∧ (∀ x, x ≠ i → q' x = q x) ∧ (∀ s, X i = some s → q' i = 0 → ∃ g₂, AtIn P (i == 0) s.keep s.rd s.B s.seat g g₂) ∧
      Co P X h (T ++ ops) gs' w q' ∧ sumTo gs.size q' < sumTo gs.size q := by
  have hlt : i < gs.size := (Array.getElem?_eq_some_iff.1 hi).1
  have hfix : ∀ (a a' : Goroutine) (x : Nat) (y : Goroutine), gs[x]? = some y → woken P a a' w y = y := fun a a' x y hy => woken_of_again (by
    by_cases hx : x = h
    · subst hx; exact hA y hy
    · exact C.fixed hx hy)
  have harr : ∀ (a' g' : Goroutine) (x : Nat), x ≠ i → ((gs.map (woken P g a' w)).setIfInBounds i g')[x]? = gs[x]? := by
    intro a' g' x hx
    rw [Array.getElem?_setIfInBounds_ne (fun e => hx e.symm), Array.getElem?_map]
    cases e : gs[x]? with
    | none => rfl
    | some y => simp [hfix g a' x y e]
  have hself : ∀ (a' g' : Goroutine), ((gs.map (woken P g a' w)).setIfInBounds i g')[i]? = some g' := fun a' g' => Array.getElem?_setIfInBounds_self_of_lt (by simpa using hlt)
  have hsum : ∀ k, q i = k + 1 → sumTo gs.size (upd q i k) < sumTo gs.size q := by
    intro k hqi
    have h2 : sumTo gs.size (upd q i k) + (k + 1) = sumTo gs.size q + k := by
      have := sumTo_upd q k id hlt
      simpa [hqi] using this
    omega
  have hid := C.idle i g hih hi
  cases e : X i with
  | none =>
    rw [e] at hid
    obtain ⟨hpos, hq⟩ := hid
    have hi0 : (i == 0) = false := by simp; omega
    cases hqi : q i with
    | zero => rw [hqi] at hq; rw [hq.1] at hrun; cases hrun
    | succ k =>
      rw [hqi] at hq
      rcases hq with ⟨hf, _⟩ | ⟨_, g', es, hm, hstp, hq'⟩
      · rw [hf] at hrun; cases hrun
      have hops : ∀ op ∈ MemOp.ofEvents i g.frame.fn g.frame.place es, op.g = i := fun op hop => by obtain ⟨e, _, rfl⟩ := Go.Conc.mem_ofEvents hop; rfl
      refine ⟨_, _, upd q i k, runT_crowd_go (sl := sl) hi (by rw [hi0]; exact hstp w), by simp, harr _ _ h (Ne.symm hih), fun x hx => upd_ne q k hx, fun s hs _ => (by cases hs), ?_, hsum k hqi⟩
      refine C.put hlt (by simp) (harr _ _) (hself _ _) hops (by rw [e]; exact ⟨hpos, by rw [Deaf_own]; exact hq'⟩) ?_
      exact C.past.appMute hops (fun op hop => by obtain ⟨e, he, rfl⟩ := Go.Conc.mem_ofEvents hop; exact touch_mute (hm e he)) (fun hM => (hM.elim (fun ⟨s, z⟩ => by rw [e] at z; cases z) (fun z => absurd z hih)))
  | some s =>
    rw [e] at hid
    have hM : ∃ s, X i = some s := ⟨s, e⟩
    have hkeep := C.keep i s hih e
    have hBs := (C.low i s e).2
    obtain ⟨k, w₀, hqi, hg⟩ : ∃ k w₀, q i = k + 1 ∧ Goes P (i == 0) (RK s.keep) (Go.Conc.DS s.rd s.B) (fun g _ => ∃ g₂, AtIn P (i == 0) s.keep s.rd s.B s.seat g g₂) k g w₀ := by
      rcases hid with hh | ⟨_, _, g₂, rfl, _⟩
      · exact hh
      · cases hrun
    have hcase : (∃ g₂, AtIn P (i == 0) s.keep s.rd s.B s.seat g g₂) ∨ ∃ k' g' es, k = k' + 1 ∧ stepG P (i == 0) g w = .go g' w es ∧ (∀ e ∈ es, EvC s.rd s.B e) ∧ Goes P (i == 0) (RK s.keep) (Go.Conc.DS s.rd s.B) (fun g _ => ∃ g₂, AtIn P (i == 0) s.keep s.rd s.B s.seat g g₂) k' g' w := by
      cases k with
      | zero => exact .inl (hg w hkeep)
      | succ k' =>
        rcases hg with hstop | ⟨_, hstep⟩
        · exact .inl (hstop w hkeep)
        · have hs := hstep w hkeep
          cases hgo : stepG P (i == 0) g w with
          | go g' w' es =>
            rw [hgo, goes_go] at hs
            obtain ⟨⟨rfl, hes⟩, hG'⟩ := hs
            exact .inr ⟨k', g', es, rfl, rfl, hes, hG'⟩
          | _ => rw [hgo] at hs; exact hs.elim
    have hread : ∀ {es : Array Event}, (∀ e ∈ es, EvC s.rd s.B e) → PT (fun g l => ∃ s, X g = some s ∧ s.rd l) (fun g => ∃ s, X g = some s) (fun g => g ≠ h ∧ ∃ s, X g = some s) w.heap.size h (T ++ MemOp.ofEvents i g.frame.fn g.frame.place es) := by
      intro es hes
      obtain ⟨hops, hr, hl, hd⟩ := evC_ops (i := i) (fn := g.frame.fn) (pos := g.frame.place) hes
      exact C.past.appRead hM ⟨hih, hM⟩ hops (fun op hop b hb => ⟨(hr op hop b hb).1, s, e, (hr op hop b hb).2⟩) (hd T)
    rcases hcase with ⟨g₂, hat⟩ | ⟨k', g', es, rfl, hgo, hes, hG'⟩
    · obtain ⟨_, _, _, _, _, es, hes, hstp⟩ := id hat
      obtain ⟨hops, hr, hl, hd⟩ := evC_ops (i := i) (fn := g.frame.fn) (pos := g.frame.place) hes
      have hw : ∀ cc ∈ s.seat.cases, NoWays w (gs.setIfInBounds i ph) cc := by
        intro cc hcc
        obtain ⟨c, z, rfl⟩ := (Seat.one_wf s.c _ _ _).recvs cc hcc
        have hsc := St.has.1 (Seat.has_of_mem hcc)
        obtain ⟨kk, hc⟩ := C.chans i s e
        rw [hsc]
        refine ways_recv_none hc (partners_nil fun x y hy => ?_)
        rcases getElem?_stand gs i x y hy with ⟨_, rfl⟩ | ⟨hx, hy'⟩
        · exact offersAt_ph _ _
        · by_cases hS : x = h
          · subst hS; exact hO s g₂ e hat y hy'
          · exact C.noSend hS hy' _
      refine ⟨_, _, upd q i 0, crowd_waits (sl := sl) hi (hstp w hkeep) hw, by simp, Array.getElem?_setIfInBounds_ne hih, fun x hx => upd_ne q 0 hx, fun s' hs' _ => (by obtain rfl := Option.some.inj hs'; exact ⟨g₂, hat⟩), ?_, ?_⟩
      · exact C.put hlt (by simp) (fun x hx => Array.getElem?_setIfInBounds_ne (fun z => hx z.symm)) (Array.getElem?_setIfInBounds_self_of_lt hlt) hops (by rw [e]; exact .inr ⟨rfl, g, g₂, rfl, hat⟩) (hread hes)
      · have h2 : sumTo gs.size (upd q i 0) + (k + 1) = sumTo gs.size q + 0 := by
          have := sumTo_upd q 0 id hlt
          simpa [hqi] using this
        omega
    · obtain ⟨hops, hr, hl, hd⟩ := evC_ops (i := i) (fn := g.frame.fn) (pos := g.frame.place) hes
      refine ⟨_, _, upd q i (k' + 1), runT_crowd_go (sl := sl) hi hgo, by simp, harr _ _ h (Ne.symm hih), fun x hx => upd_ne q _ hx, fun s' _ h0 => (by rw [upd_same] at h0; omega), ?_, hsum _ hqi⟩
      exact C.put hlt (by simp) (harr _ _) (hself _ _) hops (by rw [e]; exact .inl ⟨k', w, rfl, hG'⟩) (hread hes)
end
end Go.Proofs.Ytekmbijlaonnmaa.Z
