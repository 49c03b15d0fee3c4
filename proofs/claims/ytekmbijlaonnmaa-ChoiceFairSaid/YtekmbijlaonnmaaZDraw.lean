/-
  A region that draws the order of its operations, for one goroutine's own walk whatever is drawn; a call of a Go function inside it is borne.
-/
import Derived.Test.YtekmbijlaonnmaaZWalk
import Derived.Conc.CompanyDraw
set_option linter.unusedSimpArgs false
set_option linter.unusedVariables false
namespace Go.Proofs.Ytekmbijlaonnmaa.Z
open Go.Conc
section
variable {P : Program} {main : Bool} {D : World → World → Array Event → Prop} {fn : FuncId} {ops : Array Oper} {Q : Act → World → Nat → Prop} {md : Region.Mode} {S : World → Prop} {E : List Nat}
/-- Operation number i comes up in state a, w, n; K is asked of the state in which it ends. -/
def OpZ (P : Program) (main : Bool) (D : World → World → Array Event → Prop) (fn : FuncId) (ops : Array Oper) (i : Nat) (K : Act → World → Nat → Prop) (a : Act) (w : World) (n : Nat) : Prop :=
  ∃ o, ops[i]? = some o ∧
    ((Region.wanted o (yielded ops a.tmps) = true ∧ ((∀ d, uponK o a (fun a' w' => D (w.at d) w' (listed P fn a o (w.at d)) ∧ K a' w' (deafBehind n (listed P fn a o (w.at d)))) ((execOp a.eval o).run P (w.at d))) ∨
      ∃ f args Post, (∀ w, (execOp a.eval o).run P w = .ok (.enter f args) w) ∧ (∀ w, (execOp a.eval o).events P w #[] = #[]) ∧ CallZ P main D f args w n Post ∧ ∀ v W n', Post v W n' → ∀ d, K (a.put o.dst v) (W.at d) n')) ∨
     (Region.wanted o (yielded ops a.tmps) = false ∧ K (a.put o.dst undef) w n))
theorem OpZ.mono {i : Nat} {a : Act} {w : World} {n : Nat} {K K' : Act → World → Nat → Prop} (h : ∀ a w n, K a w n → K' a w n) (hh : OpZ P main D fn ops i K a w n) : OpZ P main D fn ops i K' a w n := by
  obtain ⟨o, ho, ⟨hw, h1 | ⟨f, args, Post, h1, h2, h3, h4⟩⟩ | ⟨hw, h1⟩⟩ := hh
  · exact ⟨o, ho, .inl ⟨hw, .inl fun d => uponK_mono (fun a w x => ⟨x.1, h _ _ _ x.2⟩) (h1 d)⟩⟩
  · exact ⟨o, ho, .inl ⟨hw, .inr ⟨f, args, Post, h1, h2, h3, fun v W n' p d => h _ _ _ (h4 v W n' p d)⟩⟩⟩
  · exact ⟨o, ho, .inr ⟨hw, h _ _ _ h1⟩⟩
/-- What one comes to by it. -/
theorem OpZ.gz (hI : DI D) {b : Frame} {k : List Item} {cs : List Frame} {Z : Goroutine → World → Nat → Prop} {i : Nat} {rest : List Nat} {a : Act} {w : World} {n : Nat} (hb : b.fn = fn) (hk : b.kind ≠ .early)
    (h : OpZ P main D fn ops i (fun a' w' n' => Gz P main D Z (G (b.at a' (.inRegion ops rest :: k)) cs) w' n') a w n) : Gz P main D Z (G (b.at a (.inRegion ops (i :: rest) :: k)) cs) w n := by
  subst hb
  obtain ⟨o, ho, ⟨hw, h1 | ⟨f, args, Post, h1, h2, h3, h4⟩⟩ | ⟨hw, h1⟩⟩ := h
  · exact gz_op ho hw hk fun d K hK => uponK_mono (fun a w x => hK a w x) (h1 d)
  · exact gz_call hI ho hw hk h1 h2 h3 fun v W n' p => by have := h4 v W n' p W.drawn; exact this
  · exact gz_unwanted hI ho hw h1
theorem OpZ.at {i : Nat} {a : Act} {w : World} {n : Nat} {K : Act → World → Nat → Prop} (hK : ∀ a w n d, K a w n → K a (w.at d) n) (h : OpZ P main D fn ops i K a w n) (d : Nat) : OpZ P main D fn ops i K a (w.at d) n := by
  obtain ⟨o, ho, ⟨hw, h1 | ⟨f, args, Post, h1, h2, h3, h4⟩⟩ | ⟨hw, h1⟩⟩ := h
  · exact ⟨o, ho, .inl ⟨hw, .inl fun d' => by rw [at_at']; exact h1 d'⟩⟩
  · exact ⟨o, ho, .inl ⟨hw, .inr ⟨f, args, Post, h1, h2, fun c cs => (h3 c cs).at d, h4⟩⟩⟩
  · exact ⟨o, ho, .inr ⟨hw, hK _ _ _ _ h1⟩⟩
/-- Operation number j waits for all of E. -/
def lastOp (md : Region.Mode) (ops : Array Oper) (E : List Nat) (j : Nat) : Bool := E.all fun k => k == j || (match ops[j]? with | some o => o.after.any fun e => Region.binds md e && e.on == k | none => false)
/-- Whatever order is picked from here on, and S holds behind every operation. -/
def AnyZ (P : Program) (main : Bool) (D : World → World → Array Event → Prop) (fn : FuncId) (md : Region.Mode) (ops : Array Oper) (Q : Act → World → Nat → Prop) (S : World → Prop) (E : List Nat) : Nat → Array Bool → Act → World → Nat → Prop
  | 0, done, a, w, n => Region.ready md ops done = [] ∧ Q a w n
  | fuel + 1, done, a, w, n =>
    (Region.ready md ops done = [] → Q a w n) ∧
    ∀ i ∈ Region.ready md ops done, OpZ P main D fn ops i (fun a' w' n' => (lastOp md ops E i = false → S w') ∧ AnyZ P main D fn md ops Q S E fuel (done.setIfInBounds i true) a' w' n') a w n
theorem AnyZ.at (hS : ∀ w d, S w → S (w.at d)) (hQ : ∀ a w n d, Q a w n → Q a (w.at d) n) : ∀ (fuel : Nat) (done : Array Bool) (a : Act) (w : World) (n d : Nat), AnyZ P main D fn md ops Q S E fuel done a w n → AnyZ P main D fn md ops Q S E fuel done a (w.at d) n
  | 0, _, _, _, _, _, h => ⟨h.1, hQ _ _ _ _ h.2⟩
  | fuel + 1, _, _, _, _, d, h => ⟨fun e => hQ _ _ _ _ (h.1 e), fun i hi => OpZ.at (fun a w n d x => ⟨fun h => hS _ _ (x.1 h), AnyZ.at hS hQ fuel _ a w n d x.2⟩) (h.2 i hi) d⟩
/-- It serves every order that the tape can pick. -/
theorem anyZ_sound (hI : DI D) {b : Frame} {k : List Item} {cs : List Frame} {Z : Goroutine → World → Nat → Prop} (hb : b.fn = fn) (hk : b.kind ≠ .early) (hQ : ∀ a w n, Q a w n → Gz P main D Z (G (b.at a k) cs) w n) :
    ∀ (fuel t : Nat) (done : Array Bool) (a : Act) (w : World) (n : Nat), AnyZ P main D fn md ops Q S E fuel done a w n →
    Gz P main D Z (G (b.at a (.inRegion ops (Region.linearise.go md ops fuel t done []) :: k)) cs) w n := by
  intro fuel
  induction fuel with
  | zero => intro t done a w n h; simpa [Region.linearise.go] using gz_region_end hI (hQ _ _ _ h.2)
  | succ fuel ih =>
    intro t done a w n h
    obtain ⟨h₀, h₁⟩ := h
    simp only [Region.linearise.go]
    change Gz P main D Z (G (b.at a (.inRegion ops (match (Region.ready md ops done)[t % (Region.ready md ops done).length]? with
      | some i => Region.linearise.go md ops fuel (t / (Region.ready md ops done).length) (done.setIfInBounds i true) [i]
      | none => [].reverse) :: k)) cs) w n
    cases hi : (Region.ready md ops done)[t % (Region.ready md ops done).length]? with
    | none =>
      have hnil : Region.ready md ops done = [] := by
        cases hr : Region.ready md ops done with
        | nil => rfl
        | cons x xs =>
          rw [hr] at hi
          have hlt : t % (x :: xs).length < (x :: xs).length := Nat.mod_lt _ (by simp)
          simp at hi
          simp at hlt
          omega
      simpa using gz_region_end hI (hQ _ _ _ (h₀ hnil))
    | some i =>
      simp only []
      rw [linearise_go_acc, List.reverse_singleton, List.singleton_append]
      exact OpZ.gz hI hb hk (OpZ.mono (fun a' w' n' x => ih _ _ a' w' n' x.2) (h₁ i (List.mem_of_getElem? hi)))
/-- In state a, in every world that meets S, operation o leaves v in its temporary and does nothing else. -/
def YieldsZ (P : Program) (D : World → World → Array Event → Prop) (fn : FuncId) (ops : Array Oper) (S : World → Prop) (o : Oper) (v : Value) (a : Act) : Prop :=
  (Region.wanted o (yielded ops a.tmps) = true ∧ ∀ w, S w → (execOp a.eval o).run P w = .ok (.value v) w ∧ D w w (listed P fn a o w) ∧ ∀ n, deafBehind n (listed P fn a o w) = n) ∨
  (Region.wanted o (yielded ops a.tmps) = false ∧ v = undef)
theorem YieldsZ.of_same {o : Oper} {v : Value} {a a' : Act} (hy : YieldsZ P D fn ops S o v a) (he : execOp a'.eval o = execOp a.eval o)
    (hw : Region.wanted o (yielded ops a'.tmps) = Region.wanted o (yielded ops a.tmps)) : YieldsZ P D fn ops S o v a' := by
  unfold YieldsZ listed at *
  rw [he, hw]
  exact hy
theorem YieldsZ.opZ (hS : ∀ w d, S w → S (w.at d)) {i : Nat} {o : Oper} {v : Value} {a : Act} (hi : ops[i]? = some o) (hy : YieldsZ P D fn ops S o v a)
    {K : Act → World → Nat → Prop} (hK : ∀ a w n d, K a w n → K a (w.at d) n) {w : World} {n : Nat} (hw : S w) (h : K (a.put o.dst v) w n) : OpZ P main D fn ops i K a w n := by
  rcases hy with ⟨h1, h2⟩ | ⟨h1, rfl⟩
  · refine ⟨o, hi, .inl ⟨h1, .inl fun d => ?_⟩⟩
    obtain ⟨e1, e2, e3⟩ := h2 _ (hS _ d hw)
    rw [e1]
    exact ⟨e2, by rw [e3]; exact hK _ _ _ _ h⟩
  · exact ⟨o, hi, .inr ⟨h1, h⟩⟩
theorem OpZ_putIf {j : Nat} {oi oj : Oper} {v : Value} (hj : ops[j]? = some oj) (hap : oi.apart ops oj = true)
    (hsi : ∀ cs b, oi.op ≠ .select cs b) (hsj : ∀ cs b, oj.op ≠ .select cs b) {K : Act → World → Nat → Prop} {a : Act} {w : World} {n : Nat}
    (hy : YieldsZ P D fn ops S oi v a) (h : OpZ P main D fn ops j K (a.put oi.dst v) w n) :
    OpZ P main D fn ops j (fun a' w' n' => YieldsZ P D fn ops S oi v a' ∧ K (a'.put oi.dst v) w' n') a w n := by
  obtain ⟨h1, h2, h3⟩ := Oper.apart_spec hap
  have keep : ∀ (a : Act), YieldsZ P D fn ops S oi v a → ∀ u, YieldsZ P D fn ops S oi v (a.put oj.dst u) := fun a hy u =>
    hy.of_same (execOp_put oi hsi a oj.dst u h3) (wanted_put oi a oj.dst u h3)
  obtain ⟨o, ho, h⟩ := h
  obtain rfl : oj = o := by rw [hj] at ho; exact Option.some.inj ho
  rw [wanted_put oj a oi.dst v h1] at h
  refine ⟨oj, hj, ?_⟩
  unfold listed at *
  rw [execOp_put oj hsj a oi.dst v h1] at h
  rcases h with ⟨hw, h | ⟨f, args, Post, e1, e2, e3, e4⟩⟩ | ⟨hw, h⟩
  · refine .inl ⟨hw, .inl fun d => ?_⟩
    have h := h d
    generalize (execOp a.eval oj).run P (w.at d) = r at *
    cases r with
    | ok x w' =>
      cases x <;> simp only [uponK] at h ⊢
      case value u => exact ⟨h.1, keep a hy u, by rw [← Act.put_comm a v u h2]; exact h.2⟩
      case skip => exact ⟨h.1, keep a hy _, by rw [← Act.put_comm a v undef h2]; exact h.2⟩
    | halt x w' => simp only [uponK] at h
  · refine .inl ⟨hw, .inr ⟨f, args, Post, e1, e2, e3, fun u W n' p d => ⟨keep a hy u, by rw [← Act.put_comm a v u h2]; exact e4 u W n' p d⟩⟩⟩
  · exact .inr ⟨hw, keep a hy _, by rw [← Act.put_comm a v undef h2]; exact h⟩
theorem anyZ_first (hS : ∀ w d, S w → S (w.at d)) (hQ : ∀ a w n d, Q a w n → Q a (w.at d) n) {i : Nat} {oi : Oper} {v : Value} (hi : ops[i]? = some oi) (hE : E.contains i = true)
    (hsel : ∀ (j : Nat) (o : Oper) cs b, ops[j]? = some o → o.op ≠ .select cs b) :
    ∀ (fuel : Nat) (done : Array Bool) (a : Act) (w : World) (n : Nat),
      (∀ j oj, ops[j]? = some oj → j ≠ i → done.getD j true = false → (∀ e ∈ oj.after, Region.binds md e = true → e.on ≠ i) → oi.apart ops oj = true) →
      i ∈ Region.ready md ops done → YieldsZ P D fn ops S oi v a → S w →
      AnyZ P main D fn md ops Q S E fuel (done.setIfInBounds i true) (a.put oi.dst v) w n → AnyZ P main D fn md ops Q S E (fuel + 1) done a w n := by
  have hK : ∀ fuel done b, ∀ a w n d, ((b = false → S w) ∧ AnyZ P main D fn md ops Q S E fuel done a w n) → ((b = false → S (w.at d)) ∧ AnyZ P main D fn md ops Q S E fuel done a (w.at d) n) :=
    fun fuel done b a w n d h => ⟨fun x => hS _ _ (h.1 x), AnyZ.at hS hQ fuel done a w n d h.2⟩
  intro fuel
  induction fuel with
  | zero =>
    intro done a w n _ hr hy hs H
    refine ⟨fun h => (by rw [h] at hr; cases hr), fun j hj => ?_⟩
    by_cases hji : j = i
    · subst hji; exact hy.opZ hS hi (hK _ _ _) hs ⟨fun _ => hs, H⟩
    · have := ready_mono hj hji
      rw [H.1] at this
      cases this
  | succ fuel ih =>
    intro done a w n hfree hr hy hs H
    refine ⟨fun h => (by rw [h] at hr; cases hr), fun j hj => ?_⟩
    by_cases hji : j = i
    · subst hji; exact hy.opZ hS hi (hK _ _ _) hs ⟨fun _ => hs, H⟩
    · have h1 := H.2 j (ready_mono hj hji)
      obtain ⟨hjun, oj, hoj, hall⟩ := mem_ready.1 hj
      have hnot : ∀ e ∈ oj.after, Region.binds md e = true → e.on ≠ i := fun e he hb heq => by
        have h1 := hall e he hb
        have h0 := (mem_ready.1 hr).1
        rw [heq] at h1
        rcases Nat.lt_or_ge i done.size with h' | h'
        · simp [h'] at h0 h1; rw [h0] at h1; cases h1
        · simp [Array.getElem?_eq_none h'] at h1
      have hlast : lastOp md ops E j = false := by
        refine Bool.eq_false_iff.2 fun hl => ?_
        have := List.all_eq_true.1 hl i (by simpa using hE)
        simp only [hoj, Bool.or_eq_true, beq_iff_eq] at this
        rcases this with e | e
        · exact hji e.symm
        · obtain ⟨x, hx, hb⟩ := Array.any_eq_true'.1 e
          simp only [Bool.and_eq_true, beq_iff_eq] at hb
          exact hnot x hx hb.1 hb.2
      have h2 := OpZ_putIf hoj (hfree j oj hoj hji hjun hnot) (fun cs b => hsel i oi cs b hi) (fun cs b => hsel j oj cs b hoj) hy h1
      have hfree' : ∀ k ok, ops[k]? = some ok → k ≠ i → (done.setIfInBounds j true).getD k true = false →
          (∀ e ∈ ok.after, Region.binds md e = true → e.on ≠ i) → oi.apart ops ok = true := fun k ok hk hki hun hno => by
        refine hfree k ok hk hki ?_ hno
        by_cases hjk : j = k
        · subst hjk; exact hjun
        · rw [getD_set_ne true hjk] at hun; exact hun
      refine OpZ.mono (fun a' w' n' h3 => ⟨h3.2.1, ih (done.setIfInBounds j true) a' w' n' hfree' (ready_mono hr (Ne.symm hji)) h3.1 (h3.2.1 hlast) ?_⟩) h2
      rw [Array.setIfInBounds_comm _ _ hji]
      exact h3.2.2
/-- Take number i first. -/
theorem anyZ_take (hS : ∀ w d, S w → S (w.at d)) (hQ : ∀ a w n d, Q a w n → Q a (w.at d) n) {i : Nat} {oi : Oper} {v : Value} {fuel : Nat} {done : Array Bool} {a : Act} {w : World} {n : Nat} (hi : ops[i]? = some oi)
    (hs : Region.noSelect ops = true) (hE : E.contains i = true) (hf : Region.free md ops done i = true) (hr : (Region.ready md ops done).contains i = true)
    (hy : YieldsZ P D fn ops S oi v a) (hw : S w) (h : AnyZ P main D fn md ops Q S E fuel (done.setIfInBounds i true) (a.put oi.dst v) w n) : AnyZ P main D fn md ops Q S E (fuel + 1) done a w n :=
  anyZ_first hS hQ hi hE (Region.noSelect_spec hs) fuel done a w n (Region.free_spec hi hf) (by simpa using hr) hy hw h
/-- The only one that may come up. -/
theorem anyZ_only {i : Nat} {fuel : Nat} {done : Array Bool} {a : Act} {w : World} {n : Nat} (hr : Region.ready md ops done = [i])
    (h : OpZ P main D fn ops i (fun a' w' n' => (lastOp md ops E i = false → S w') ∧ AnyZ P main D fn md ops Q S E fuel (done.setIfInBounds i true) a' w' n') a w n) : AnyZ P main D fn md ops Q S E (fuel + 1) done a w n :=
  ⟨fun h0 => (by rw [hr] at h0; cases h0), fun j hj => (by rw [hr] at hj; obtain rfl := List.mem_singleton.1 hj; exact h)⟩
theorem anyZ_done {done : Array Bool} {a : Act} {w : World} {n : Nat} (hr : Region.ready md ops done = []) (h : Q a w n) : ∀ fuel, AnyZ P main D fn md ops Q S E fuel done a w n
  | 0 => ⟨hr, h⟩
  | _ + 1 => ⟨fun _ => h, fun i hi => (by rw [hr] at hi; cases hi)⟩
/-- THE BEGINNING. -/
theorem gz_region_held (hI : DI D) {b : Frame} {k : List Item} {cs : List Frame} {Z : Goroutine → World → Nat → Prop} {id : Nat} {a : Act} {w : World} {n : Nat} (S : World → Prop) (E : List Nat) (hk : b.kind ≠ .early) (hm : P.follows .mixedOrders = true)
    (h : AnyZ P main D b.fn .any ops (fun a w n => Gz P main D Z (G (b.at a k) cs) w n) S E ops.size (Array.replicate ops.size false) a w n) : Gz P main D Z (G (b.at a (.code (.region id ops true) :: k)) cs) w n := by
  refine gz_step rfl fun d => ⟨_, _, _, stepG_region_draw, hI.drew _ _, ?_⟩
  simp only [Region.schedule, hm, Bool.true_or, if_true]
  have := anyZ_sound hI rfl hk (fun _ _ _ x => x) ops.size ((w.at d).tape (w.at d).drawn (.order b.fn id)) _ a w n h
  exact this.at ((w.at d).drawn + 1)
theorem gt_region_held {b : Frame} {k : List Item} {cs : List Frame} {Z : Goroutine → World → Prop} {id : Nat} {a : Act} {w : World} (S : World → Prop) (E : List Nat) (hk : b.kind ≠ .early) (hm : P.follows .mixedOrders = true)
    (h : ∀ n, AnyZ P true DT b.fn .any ops (fun a w n => Gt P Z (G (b.at a k) cs) w) S E ops.size (Array.replicate ops.size false) a w n) : Gt P Z (G (b.at a (.code (.region id ops true) :: k)) cs) w := fun n => by
  refine gz_step rfl fun d => ⟨_, _, _, stepG_region_draw, trivial, ?_⟩
  simp only [Region.schedule, hm, Bool.true_or, if_true]
  have := anyZ_sound di_T rfl hk (fun a w n x => x n) ops.size ((w.at d).tape (w.at d).drawn (.order b.fn id)) _ a w n (h n)
  exact this.at ((w.at d).drawn + 1)
/-- ONE OPERATION beside leavers, whatever it does, if it lists no mark of deafness. -/
theorem gl_op {b : Frame} {k : List Item} {cs : List Frame} {Z : Goroutine → World → Nat → Prop} {a : Act} {w : World} {n : Nat} {i : Nat} {rest : List Nat} {o : Oper} (ho : ops[i]? = some o) (hpl : plainOp o.op = true) (hw : Region.wanted o (yielded ops a.tmps) = true) (hk : b.kind ≠ .early)
    (he : ∀ d e, e ∈ (execOp a.eval o).events P (w.at d) #[] → e.loc ≠ .mark .disable ∧ e.loc ≠ .mark .enable)
    (h : ∀ d, ∀ K : Act → World → Prop, (∀ a' w', Gz P main DT Z (G (b.at a' (.inRegion ops rest :: k)) cs) w' n → K a' w') → uponK o a K ((execOp a.eval o).run P (w.at d))) :
    Gz P main DT Z (G (b.at a (.inRegion ops (i :: rest) :: k)) cs) w n :=
  gz_op ho hw hk fun d K hK => h d K fun a' w' x => hK a' w' ⟨trivial, by rw [deafBehind_still fun e hm => he d e (mem_listed hm)]; exact x⟩
/-- An operation that yields its value in every world that meets S and at most reads. -/
theorem yieldsZ_rd (hI : DI D) {o : Oper} {v : Value} {a : Act} (hw : Region.wanted o (yielded ops a.tmps) = true) (hr : ∀ w, S w → ∀ K : Result Next → Prop, K (.ok (.value v) w) → K ((execOp a.eval o).run P w))
    (he : ∀ w, S w → ∀ e, e ∈ (execOp a.eval o).events P w #[] → ∃ ad s v, e = ⟨.cell ad, false, s⟩ ∧ w.cell? ad = some v) : YieldsZ P D fn ops S o v a :=
  .inl ⟨hw, fun w h => ⟨hr w h (· = .ok (.value v) w) rfl, hI.quiet _ _ fun e hm => he w h e (mem_listed hm), fun n => deafBehind_still (fun e hm => by obtain ⟨ad, s, v, rfl, _⟩ := he w h e (mem_listed hm); exact ⟨by simp, by simp⟩) n⟩⟩
/-- One operation inside it, that is no call. -/
theorem opZ_op {i : Nat} {o : Oper} {a : Act} {w : World} {n : Nat} {K : Act → World → Nat → Prop} (ho : ops[i]? = some o) (hw : Region.wanted o (yielded ops a.tmps) = true)
    (h : ∀ d, ∀ K' : Act → World → Prop, (∀ a' w', D (w.at d) w' (listed P fn a o (w.at d)) ∧ K a' w' (deafBehind n (listed P fn a o (w.at d))) → K' a' w') → uponK o a K' ((execOp a.eval o).run P (w.at d))) : OpZ P main D fn ops i K a w n :=
  ⟨o, ho, .inl ⟨hw, .inl fun d => h d _ fun _ _ x => x⟩⟩
/-- .. that is one. -/
theorem opZ_call {i : Nat} {o : Oper} {f : FuncId} {fn' : Func} {args : Array Operand} {ats : Array TypeId} {x : Operand} {first captured : Array Value} {Post : Value → World → Nat → Prop} {a : Act} {w : World} {n : Nat} {K : Act → World → Nat → Prop}
    (ho : ops[i]? = some o) (hw : Region.wanted o (yielded ops a.tmps) = true) (hop : o.op = .call { callee := .value x, args, argTypes := ats }) (hx : a.eval x = .func (.func f) first captured)
    (hf : P.funcs[f]? = some fn') (hname : (fn'.name == "runtime.NumGoroutine") = false) (hb : fn'.body.isSome = true) {as : Array Value} (hc : CallZ P main D f as w n Post) (ha : first ++ args.map a.eval ++ captured = as)
    (h : ∀ v W n', Post v W n' → ∀ d, K (a.put o.dst v) (W.at d) n') : OpZ P main D fn ops i K a w n :=
  ⟨o, ho, .inl ⟨hw, .inr ⟨f, as, Post, fun w => by rw [run_call hop hx hf hname hb w, ha], events_call hop hx hf hname hb, hc, h⟩⟩⟩
/-- A LOOP, by a measure. -/
theorem gz_while (hI : DI D) {b : Frame} {k : List Item} {cs : List Frame} {Z : Goroutine → World → Nat → Prop} {a : Act} {w : World} {n r : Nat} {c : Code} (Inv : Nat → Act → World → Nat → Prop) (h0 : Inv r a w n)
    (step : ∀ r a w n, Inv r a w n → (∀ r' a' w' n', r' < r → Inv r' a' w' n' → Gz P main D Z (G (b.at a' (.inLoop c :: k)) cs) w' n') → Gz P main D Z (G (b.at a (.code c :: .inLoop c :: k)) cs) w n) :
    Gz P main D Z (G (b.at a (.code (.loop c) :: k)) cs) w n := by
  refine gz_loop hI ?_
  have key : ∀ r a w n, Inv r a w n → Gz P main D Z (G (b.at a (.code c :: .inLoop c :: k)) cs) w n := by
    intro r
    induction r using Nat.strongRecOn with
    | _ r ih => exact fun a w n h => step r a w n h fun r' a' w' n' hr h' => gz_inLoop hI (ih r' hr a' w' n' h')
  exact key r a w n h0
theorem gt_while {b : Frame} {k : List Item} {cs : List Frame} {Z : Goroutine → World → Prop} {a : Act} {w : World} {r : Nat} {c : Code} (Inv : Nat → Act → World → Prop) (h0 : Inv r a w)
    (step : ∀ r a w, Inv r a w → (∀ r' a' w', r' < r → Inv r' a' w' → Gt P Z (G (b.at a' (.inLoop c :: k)) cs) w') → Gt P Z (G (b.at a (.code c :: .inLoop c :: k)) cs) w) :
    Gt P Z (G (b.at a (.code (.loop c) :: k)) cs) w := by
  refine gt_loop ?_
  have key : ∀ r a w, Inv r a w → Gt P Z (G (b.at a (.code c :: .inLoop c :: k)) cs) w := by
    intro r
    induction r using Nat.strongRecOn with
    | _ r ih => exact fun a w h => step r a w h fun r' a' w' hr h' => gt_inLoop (ih r' hr a' w' h')
  exact key r a w h0
/-- A LOOP, by a measure, with the slots that matter. -/
theorem gz_loopA (hI : DI D) {σ : Type} {b : Frame} {k : List Item} {cs : List Frame} {Z : Goroutine → World → Nat → Prop} {a : Act} {w : World} {n r : Nat} {c : Code} (lit : σ → (Nat → Value) → Array Value) (Inv : Nat → σ → World → Nat → Prop) (s0 : σ) (h0 : Inv r s0 w n)
    (ha : a = ⟨lit s0 (fun k => a.tmps.getD k undef), []⟩)
    (step : ∀ r s g w n, Inv r s w n → (∀ r' s' a' w' n', r' < r → Inv r' s' w' n' → a' = ⟨lit s' (fun k => a'.tmps.getD k undef), []⟩ → Gz P main D Z (G (b.at a' (.inLoop c :: k)) cs) w' n') → Gz P main D Z (G (b.at ⟨lit s g, []⟩ (.code c :: .inLoop c :: k)) cs) w n) :
    Gz P main D Z (G (b.at a (.code (.loop c) :: k)) cs) w n := by
  refine gz_while hI (r := r) (fun r a w n => ∃ s, Inv r s w n ∧ a = ⟨lit s (fun k => a.tmps.getD k undef), []⟩) ⟨s0, h0, ha⟩ ?_
  rintro r a w n ⟨s, hi, ha⟩ ih
  rw [ha]
  exact step r s _ w n hi fun r' s' a' w' n' hr hi' ha' => ih r' a' w' n' hr ⟨s', hi', ha'⟩
theorem gt_loopA {σ : Type} {b : Frame} {k : List Item} {cs : List Frame} {Z : Goroutine → World → Prop} {a : Act} {w : World} {r : Nat} {c : Code} (lit : σ → (Nat → Value) → Array Value) (Inv : Nat → σ → World → Prop) (s0 : σ) (h0 : Inv r s0 w)
    (ha : a = ⟨lit s0 (fun k => a.tmps.getD k undef), []⟩)
    (step : ∀ r s g w, Inv r s w → (∀ r' s' a' w', r' < r → Inv r' s' w' → a' = ⟨lit s' (fun k => a'.tmps.getD k undef), []⟩ → Gt P Z (G (b.at a' (.inLoop c :: k)) cs) w') → Gt P Z (G (b.at ⟨lit s g, []⟩ (.code c :: .inLoop c :: k)) cs) w) :
    Gt P Z (G (b.at a (.code (.loop c) :: k)) cs) w := by
  refine gt_while (r := r) (fun r a w => ∃ s, Inv r s w ∧ a = ⟨lit s (fun k => a.tmps.getD k undef), []⟩) ⟨s0, h0, ha⟩ ?_
  rintro r a w ⟨s, hi, ha⟩ ih
  rw [ha]
  exact step r s _ w hi fun r' s' a' w' hr hi' ha' => ih r' a' w' hr ⟨s', hi', ha'⟩
theorem CallT.toZ {f : FuncId} {args : Array Value} {w : World} {Post : Value → World → Prop} (h : CallT P f args w Post) (n : Nat) : CallZ P true DT f args w n fun v W _ => Post v W := fun c cs => h c cs n
end
end Go.Proofs.Ytekmbijlaonnmaa.Z
