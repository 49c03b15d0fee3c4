/-
  How one goroutine's own way is walked through the text of a function, step by step, whatever is drawn.
-/
import Derived.Test.YtekmbijlaonnmaaZFin
import Derived.Conc.CompanyMem
import Derived.Conc.TokenWords
set_option linter.unusedSimpArgs false
set_option linter.unusedVariables false
namespace Go.Proofs.Ytekmbijlaonnmaa.Z
open Go.Conc
/-- A step that turns nothing and lists nothing is allowed; and what is allowed is so whatever the count of draws. -/
structure DI (D : World → World → Array Event → Prop) : Prop where
  idle : ∀ w, D w w #[]
  drew : ∀ w d, D w (w.at d) #[]
  quiet : ∀ w es, (∀ e ∈ es, ∃ ad s v, e = ⟨.cell ad, false, s⟩ ∧ w.cell? ad = some v) → D w w es
theorem di_T : DI DT := ⟨fun _ => trivial, fun _ _ => trivial, fun _ _ _ => trivial⟩
theorem low_read {w : World} {ad : Addr} {v : Value} {wr s : Bool} (h : w.cell? ad = some v) : (MemAct.ofEvent ⟨.cell ad, wr, s⟩).low w.heap.size := cell_lt h
theorem di_Z (Pa : Addr → Prop) (Pc : Nat → Prop) : DI (DZ Pa Pc) := ⟨fun _ => ⟨fun _ _ => rfl, fun _ _ => rfl, Nat.le_refl _, by simp⟩, fun _ _ => ⟨fun _ _ => rfl, fun _ _ => rfl, Nat.le_refl _, by simp⟩,
  fun w es h => ⟨fun _ _ => rfl, fun _ _ => rfl, Nat.le_refl _, fun e he => by
    obtain ⟨ad, s, v, rfl, hc⟩ := h e he
    refine ⟨fun x hx hw => ?_, by simp, by simp⟩
    have : x = ⟨.cell ad, false, if s then .atomic else .plain⟩ := by
      simp only [MemAct.ofEvent, MemAct.touch?, Option.some.injEq] at hx
      exact hx.symm
    rw [this] at hw; cases hw⟩⟩
section
variable {P : Program} {main : Bool} {D : World → World → Array Event → Prop} {Z : Goroutine → World → Nat → Prop} {w : World} {n : Nat} {b : Frame} {a : Act} {k : List Item} {cs : List Frame}
theorem gz_go {g g' : Goroutine} {W : World} {es : Array Event} (hr : g.status = .running) (h : ∀ d, stepG P main g (w.at d) = .go g' (W.at d) es) (hD : ∀ d, D (w.at d) (W.at d) es) (hk : Gz P main D Z g' W (deafBehind n es)) : Gz P main D Z g w n :=
  gz_step hr fun d => ⟨g', W.at d, es, h d, hD d, hk.at d⟩
theorem gz_ctl (hI : DI D) {g g' : Goroutine} (hr : g.status = .running) (h : ∀ w, stepG P main g w = .go g' w #[]) (hk : Gz P main D Z g' w n) : Gz P main D Z g w n :=
  gz_step hr fun d => ⟨g', w.at d, #[], h _, hI.idle _, hk.at d⟩
theorem gz_skip (hI : DI D) (hk : Gz P main D Z (G (b.at a k) cs) w n) : Gz P main D Z (G (b.at a (.code .skip :: k)) cs) w n := gz_ctl hI rfl (fun _ => stepG_skip) hk
theorem gz_label (hI : DI D) {l : Nat} (hk : Gz P main D Z (G (b.at a k) cs) w n) : Gz P main D Z (G (b.at a (.code (.label l) :: k)) cs) w n := gz_ctl hI rfl (fun _ => stepG_label) hk
theorem gz_inBlock (hI : DI D) {l : Nat} (hk : Gz P main D Z (G (b.at a k) cs) w n) : Gz P main D Z (G (b.at a (.inBlock l :: k)) cs) w n := gz_ctl hI rfl (fun _ => stepG_inBlock) hk
theorem gz_inScope (hI : DI D) {c : Code} (hk : Gz P main D Z (G (b.at a k) cs) w n) : Gz P main D Z (G (b.at a (.inScope c :: k)) cs) w n := gz_ctl hI rfl (fun _ => by simp [G, stepG, stepG.exec, Frame.at]) hk
theorem gz_scope (hI : DI D) {c : Code} (hk : Gz P main D Z (G (b.at a (.code c :: .inScope c :: k)) cs) w n) : Gz P main D Z (G (b.at a (.code (.scope c) :: k)) cs) w n := gz_ctl hI rfl (fun _ => by simp [G, stepG, stepG.exec, Frame.at]) hk
theorem gz_seq (hI : DI D) {x y : Code} (hk : Gz P main D Z (G (b.at a (.code x :: .code y :: k)) cs) w n) : Gz P main D Z (G (b.at a (.code (.seq x y) :: k)) cs) w n := gz_ctl hI rfl (fun _ => stepG_seq) hk
theorem gz_block (hI : DI D) {l : Nat} {c : Code} (hk : Gz P main D Z (G (b.at a (.code c :: .inBlock l :: k)) cs) w n) : Gz P main D Z (G (b.at a (.code (.block l c) :: k)) cs) w n := gz_ctl hI rfl (fun _ => stepG_block) hk
theorem gz_loop (hI : DI D) {c : Code} (hk : Gz P main D Z (G (b.at a (.code c :: .inLoop c :: k)) cs) w n) : Gz P main D Z (G (b.at a (.code (.loop c) :: k)) cs) w n := gz_ctl hI rfl (fun _ => stepG_loop) hk
theorem gz_inLoop (hI : DI D) {c : Code} (hk : Gz P main D Z (G (b.at a (.code c :: .inLoop c :: k)) cs) w n) : Gz P main D Z (G (b.at a (.inLoop c :: k)) cs) w n := gz_ctl hI rfl (fun _ => stepG_inLoop) hk
theorem gz_region (hI : DI D) {id : Nat} {ops : Array Oper} (hk : Gz P main D Z (G (b.at a (.inRegion ops (List.range ops.size) :: k)) cs) w n) : Gz P main D Z (G (b.at a (.code (.region id ops false) :: k)) cs) w n := gz_ctl hI rfl (fun _ => stepG_region) hk
theorem gz_region_end (hI : DI D) {ops : Array Oper} (hk : Gz P main D Z (G (b.at a k) cs) w n) : Gz P main D Z (G (b.at a (.inRegion ops [] :: k)) cs) w n := gz_ctl hI rfl (fun _ => stepG_region_end) hk
theorem gz_cond (hI : DI D) {c : Operand} {x y : Code} {t : Bool} (hc : a.eval c = .bool t) (hk : Gz P main D Z (G (b.at a (.code (if t then x else y) :: k)) cs) w n) : Gz P main D Z (G (b.at a (.code (.cond c x y) :: k)) cs) w n :=
  gz_ctl hI rfl (fun _ => stepG_cond hc) hk
theorem gz_cond_t (hI : DI D) {c : Operand} {x y : Code} (hc : a.eval c = .bool true) (hk : Gz P main D Z (G (b.at a (.code x :: k)) cs) w n) : Gz P main D Z (G (b.at a (.code (.cond c x y) :: k)) cs) w n := gz_cond hI hc hk
theorem gz_cond_f (hI : DI D) {c : Operand} {x y : Code} (hc : a.eval c = .bool false) (hk : Gz P main D Z (G (b.at a (.code y :: k)) cs) w n) : Gz P main D Z (G (b.at a (.code (.cond c x y) :: k)) cs) w n := gz_cond hI hc hk
/-- A test that is open: both ways. -/
theorem gz_split (hI : DI D) {c : Operand} {x y : Code} {t : Bool} (hc : a.eval c = .bool t) (h1 : t = true → Gz P main D Z (G (b.at a (.code x :: k)) cs) w n) (h2 : t = false → Gz P main D Z (G (b.at a (.code y :: k)) cs) w n) :
    Gz P main D Z (G (b.at a (.code (.cond c x y) :: k)) cs) w n := by
  refine gz_cond hI hc ?_
  cases t with
  | true => exact h1 rfl
  | false => exact h2 rfl
theorem gz_exit (hI : DI D) {id : Nat} {k' : List Item} (h : exitTo id k = some k') (hk : Gz P main D Z (G (b.at a k') cs) w n) : Gz P main D Z (G (b.at a (.code (.exit id) :: k)) cs) w n := gz_ctl hI rfl (fun _ => stepG_exit h) hk
theorem gz_goto (hI : DI D) {l : Nat} {k' : List Item} (h : gotoIn l k = some k') (hk : Gz P main D Z (G (b.at a k') cs) w n) : Gz P main D Z (G (b.at a (.code (.goto l) :: k)) cs) w n :=
  gz_ctl hI rfl (fun _ => by simp [G, stepG, stepG.exec, Frame.at, h]) hk
theorem gz_ret (hI : DI D) (hk : Gz P main D Z (G { b.at a (.code .ret :: k) with mode := .returning } cs) w n) : Gz P main D Z (G (b.at a (.code .ret :: k)) cs) w n := gz_ctl hI rfl (fun _ => stepG_ret') hk
theorem gz_end (hI : DI D) (hk : Gz P main D Z (G { b.at a [] with mode := .returning } cs) w n) : Gz P main D Z (G (b.at a []) cs) w n := gz_ctl hI rfl (fun _ => stepG_end) hk
theorem gz_unwanted (hI : DI D) {ops : Array Oper} {i : Nat} {rest : List Nat} {o : Oper} (ho : ops[i]? = some o) (hw : Region.wanted o (yielded ops a.tmps) = false) (hk : Gz P main D Z (G (b.at (a.put o.dst undef) (.inRegion ops rest :: k)) cs) w n) :
    Gz P main D Z (G (b.at a (.inRegion ops (i :: rest) :: k)) cs) w n := gz_ctl hI rfl (fun _ => stepG_unwanted ho hw) hk
/-- No call of a Go function, no deferred call, no go statement. -/
def plainOp : Op → Bool
  | .call { callee := .value _, .. } => false
  | .call { callee := .invoke _ _, .. } => false
  | .go _ | .defer _ | .send _ _ | .recv _ _ _ | .select _ _ => false
  | _ => true
/-- ONE OPERATION. -/
theorem gz_op {ops : Array Oper} {i : Nat} {rest : List Nat} {o : Oper} (ho : ops[i]? = some o) (hw : Region.wanted o (yielded ops a.tmps) = true) (hk : b.kind ≠ .early)
    (h : ∀ d, ∀ K : Act → World → Prop, (∀ a' w', D (w.at d) w' (listed P b.fn a o (w.at d)) ∧ Gz P main D Z (G (b.at a' (.inRegion ops rest :: k)) cs) w' (deafBehind n (listed P b.fn a o (w.at d))) → K a' w') → uponK o a K ((execOp a.eval o).run P (w.at d))) :
    Gz P main D Z (G (b.at a (.inRegion ops (i :: rest) :: k)) cs) w n := by
  refine gz_step rfl fun d => ?_
  have h0 := goes_oper_k (main := main) (b := b) (k := k) (cs := cs) (w := w.at d) (K := fun g' w' es => D (w.at d) w' es ∧ Gz P main D Z g' w' (deafBehind n es)) ho hw hk (fun K hK => h d K hK)
  revert h0
  cases stepG P main (G (b.at a (.inRegion ops (i :: rest) :: k)) cs) (w.at d) <;> intro h0
  case go g' w' es => exact ⟨g', w', es, rfl, h0.1, h0.2⟩
  all_goals exact h0.elim
/-- .. that only reads. -/
theorem gz_rd (hI : DI D) {ops : Array Oper} {i : Nat} {rest : List Nat} {o : Oper} (ho : ops[i]? = some o) (hpl : plainOp o.op = true) (hw : Region.wanted o (yielded ops a.tmps) = true) (hk : b.kind ≠ .early)
    (he : ∀ d e, e ∈ (execOp a.eval o).events P (w.at d) #[] → ∃ ad s v, e = ⟨.cell ad, false, s⟩ ∧ w.cell? ad = some v)
    (h : ∀ d, ∀ K : Act → World → Prop, (∀ a' w', w' = w.at d → Gz P main D Z (G (b.at a' (.inRegion ops rest :: k)) cs) w n → K a' w') → uponK o a K ((execOp a.eval o).run P (w.at d))) :
    Gz P main D Z (G (b.at a (.inRegion ops (i :: rest) :: k)) cs) w n := by
  refine gz_step rfl fun d => ?_
  have h0 := goes_oper_k (main := main) (b := b) (k := k) (cs := cs) (w := w.at d) (K := fun g' w' es => w' = w.at d ∧ es = listed P b.fn a o (w.at d) ∧ Gz P main D Z g' w n) ho hw hk (fun K hK => h d K fun a' w' e x => hK a' w' ⟨e, rfl, x⟩)
  revert h0
  have hq : ∀ e ∈ listed P b.fn a o (w.at d), ∃ ad s v, e = ⟨.cell ad, false, s⟩ ∧ (w.at d).cell? ad = some v := fun e hm => he d e (mem_listed hm)
  cases stepG P main (G (b.at a (.inRegion ops (i :: rest) :: k)) cs) (w.at d) <;> intro h0
  case go g' w' es =>
    obtain ⟨rfl, rfl, hg⟩ := h0
    refine ⟨g', _, _, rfl, hI.quiet _ _ hq, ?_⟩
    rw [deafBehind_still (fun e hm => by obtain ⟨ad, s, v, rfl, _⟩ := hq e hm; exact ⟨by simp, by simp⟩)]
    exact hg.at d
  all_goals exact h0.elim
/-- .. that lists nothing. -/
theorem gz_op0 {ops : Array Oper} {i : Nat} {rest : List Nat} {o : Oper} (ho : ops[i]? = some o) (hw : Region.wanted o (yielded ops a.tmps) = true) (hk : b.kind ≠ .early) (he : ∀ w, (execOp a.eval o).events P w #[] = #[])
    (h : ∀ d, ∀ K : Act → World → Prop, (∀ a' w', D (w.at d) w' #[] ∧ Gz P main D Z (G (b.at a' (.inRegion ops rest :: k)) cs) w' n → K a' w') → uponK o a K ((execOp a.eval o).run P (w.at d))) :
    Gz P main D Z (G (b.at a (.inRegion ops (i :: rest) :: k)) cs) w n :=
  gz_op ho hw hk fun d K hK => h d K fun a' w' x => hK a' w' (by rw [listed_none (he _)]; exact x)
end
/-- What comes back from a call: the caller goes on with v. -/
def RetZ (c : Frame) (cs : List Frame) (Post : Value → World → Nat → Prop) (g : Goroutine) (w : World) (n : Nat) : Prop := ∃ v W, g = G (c.finish v) cs ∧ (∃ d, w = W.at d) ∧ Post v W n
/-- A CONTRACT: called with these arguments in world w, deaf n deep, f comes back; v, the world and the deafness meet Post. -/
def CallZ (P : Program) (main : Bool) (D : World → World → Array Event → Prop) (f : FuncId) (args : Array Value) (w : World) (n : Nat) (Post : Value → World → Nat → Prop) : Prop :=
  ∀ c cs, Gz P main D (RetZ c cs Post) (G (Frame.enter P f args .normal) (c :: cs)) w n
section
variable {P : Program} {main : Bool} {D D' : World → World → Array Event → Prop} {Z Z' : Goroutine → World → Nat → Prop} {w : World} {n : Nat} {b : Frame} {a : Act} {k : List Item} {cs : List Frame}
theorem CallZ.mono {f : FuncId} {args : Array Value} {Post Post' : Value → World → Nat → Prop} (h : CallZ P main D f args w n Post) (hp : ∀ v w n, Post v w n → Post' v w n) : CallZ P main D f args w n Post' :=
  fun c cs => (h c cs).mono (fun _ _ _ x => x) fun _ _ _ ⟨v, W, e, d, p⟩ => ⟨v, W, e, d, hp _ _ _ p⟩
theorem CallZ.within {f : FuncId} {args : Array Value} {Post : Value → World → Nat → Prop} (h : CallZ P main D f args w n Post) (hD : ∀ w w' es, D w w' es → D' w w' es) : CallZ P main D' f args w n Post :=
  fun c cs => (h c cs).mono hD fun _ _ _ x => x
/-- Into a function with a Go body. -/
theorem gz_enter (hI : DI D) {ops : Array Oper} {i : Nat} {rest : List Nat} {o : Oper} {f : FuncId} {args : Array Value} (ho : ops[i]? = some o) (hw : Region.wanted o (yielded ops a.tmps) = true) (hk : b.kind ≠ .early)
    (hr : ∀ w, (execOp a.eval o).run P w = .ok (.enter f args) w) (he : ∀ w, (execOp a.eval o).events P w #[] = #[])
    (h : Gz P main D Z (G (Frame.enter P f args .normal) (b.at a (.inRegion ops (i :: rest) :: k) :: cs)) w n) : Gz P main D Z (G (b.at a (.inRegion ops (i :: rest) :: k)) cs) w n := by
  refine gz_ctl hI rfl (fun w => ?_) h
  have hk' : (b.kind == CallKind.early) = false := by simpa using hk
  rw [stepG_oper ho hw]
  simp [stepG.apply, hr w, he w, G, Frame.at, hk', GStep.after, seen_none]
theorem finish_op {ops : Array Oper} {i : Nat} {rest : List Nat} {o : Oper} (ho : ops[i]? = some o) (v : Value) : (b.at a (.inRegion ops (i :: rest) :: k)).finish v = b.at (a.put o.dst v) (.inRegion ops rest :: k) := by rw [Frame.finish_at, ho]; rfl
/-- THROUGH A CALL BY ITS CONTRACT. -/
theorem gz_call (hI : DI D) {ops : Array Oper} {i : Nat} {rest : List Nat} {o : Oper} {f : FuncId} {args : Array Value} {Post : Value → World → Nat → Prop} (ho : ops[i]? = some o) (hw : Region.wanted o (yielded ops a.tmps) = true) (hk : b.kind ≠ .early)
    (hr : ∀ w, (execOp a.eval o).run P w = .ok (.enter f args) w) (he : ∀ w, (execOp a.eval o).events P w #[] = #[]) (hc : CallZ P main D f args w n Post)
    (h : ∀ v W n', Post v W n' → Gz P main D Z (G (b.at (a.put o.dst v) (.inRegion ops rest :: k)) cs) W n') : Gz P main D Z (G (b.at a (.inRegion ops (i :: rest) :: k)) cs) w n := by
  refine gz_enter hI ho hw hk hr he ((hc _ _).bind fun g w' n' ⟨v, W, e, ⟨d, ed⟩, p⟩ => ?_)
  subst e; subst ed
  rw [finish_op ho]
  exact (h v W n' p).at d
theorem run_call {o : Oper} {f : FuncId} {fn : Func} {args : Array Operand} {ats : Array TypeId} {x : Operand} {first captured : Array Value} (hop : o.op = .call { callee := .value x, args, argTypes := ats }) (hx : a.eval x = .func (.func f) first captured)
    (hf : P.funcs[f]? = some fn) (hname : (fn.name == "runtime.NumGoroutine") = false) (hb : fn.body.isSome = true) (w : World) :
    (execOp a.eval o).run P w = .ok (.enter f (first ++ args.map a.eval ++ captured)) w := by
  have h1 : ¬ fn.name = "runtime.NumGoroutine" := by simpa using hname
  have h2 : fn.body ≠ none := by intro e; rw [e] at hb; cases hb
  unfold execOp
  simp [hop, resolve, Deferred.ofValue, hx, invoke, callFunc, hf, h1, h2]
theorem events_call {o : Oper} {f : FuncId} {fn : Func} {args : Array Operand} {ats : Array TypeId} {x : Operand} {first captured : Array Value} (hop : o.op = .call { callee := .value x, args, argTypes := ats }) (hx : a.eval x = .func (.func f) first captured)
    (hf : P.funcs[f]? = some fn) (hname : (fn.name == "runtime.NumGoroutine") = false) (hb : fn.body.isSome = true) (w : World) :
    (execOp a.eval o).events P w #[] = #[] := by
  have h1 : ¬ fn.name = "runtime.NumGoroutine" := by simpa using hname
  have h2 : fn.body ≠ none := by intro e; rw [e] at hb; cases hb
  unfold execOp
  simp [hop, resolve, Deferred.ofValue, hx, invoke, callFunc, hf, h1, h2]
/-- Through a call of a Go function (or of a function value), by its contract. -/
theorem gz_callf (hI : DI D) {ops : Array Oper} {i : Nat} {rest : List Nat} {o : Oper} {f : FuncId} {fn : Func} {args : Array Operand} {ats : Array TypeId} {x : Operand} {first captured : Array Value} {Post : Value → World → Nat → Prop}
    (ho : ops[i]? = some o) (hw : Region.wanted o (yielded ops a.tmps) = true) (hk : b.kind ≠ .early) (hop : o.op = .call { callee := .value x, args, argTypes := ats }) (hx : a.eval x = .func (.func f) first captured)
    (hf : P.funcs[f]? = some fn) (hname : (fn.name == "runtime.NumGoroutine") = false) (hb : fn.body.isSome = true) {as : Array Value} (hc : CallZ P main D f as w n Post) (ha : first ++ args.map a.eval ++ captured = as)
    (h : ∀ v W n', Post v W n' → Gz P main D Z (G (b.at (a.put o.dst v) (.inRegion ops rest :: k)) cs) W n') : Gz P main D Z (G (b.at a (.inRegion ops (i :: rest) :: k)) cs) w n :=
  gz_call hI ho hw hk (run_call hop hx hf hname hb) (events_call hop hx hf hname hb) (ha ▸ hc) h
/-- How a contract is entered. -/
theorem callZ_of {f : FuncId} {fn : Func} {c : Code} {args : Array Value} {Post : Value → World → Nat → Prop} (hf : P.funcs[f]? = some fn) (hb : fn.body = some c)
    (h : ∀ c' cs, Gz P main D (RetZ c' cs Post) (G ((base f).at { tmps := args ++ Array.replicate (fn.ntmps - args.size) undef, defers := [] } [.code c]) (c' :: cs)) w n) : CallZ P main D f args w n Post := fun c' cs => by
  rw [enter_at args hf hb]; exact h c' cs
/-- The return of a function that has deferred nothing. -/
theorem gz_leave (hI : DI D) {c : Frame} {todo : List Item} {fn : Func} {v : Value} (hn : b.kind = .normal) (hd : a.defers = []) (hf : P.funcs[b.fn]? = some fn) (hr : ResultsC P fn a.tmps v)
    (h : Gz P main D Z (G (c.finish v) cs) w n) : Gz P main D Z (G { b.at a todo with mode := .returning } (c :: cs)) w n :=
  gz_ctl hI rfl (fun w => stepG_leave hn hd hf (hr w).1 (hr w).2) h
theorem retZ_stop {c : Frame} {Post : Value → World → Nat → Prop} {v : Value} (hp : Post v w n) : Gz P main D (RetZ c cs Post) (G (c.finish v) cs) w n := gz_stop fun d => ⟨v, w, rfl, ⟨d, rfl⟩, hp⟩
/-- 'return' at the end of a contract's body. -/
theorem gz_return (hI : DI D) {f : FuncId} {c : Frame} {fn : Func} {Post : Value → World → Nat → Prop} {v : Value} (hd : a.defers = []) (hf : P.funcs[f]? = some fn) (hr : ResultsC P fn a.tmps v) (hp : Post v w n) :
    Gz P main D (RetZ c cs Post) (G ((base f).at a (.code .ret :: k)) (c :: cs)) w n := gz_ret hI (gz_leave hI rfl hd hf hr (retZ_stop hp))
theorem gz_return_end (hI : DI D) {f : FuncId} {c : Frame} {fn : Func} {Post : Value → World → Nat → Prop} {v : Value} (hd : a.defers = []) (hf : P.funcs[f]? = some fn) (hr : ResultsC P fn a.tmps v) (hp : Post v w n) :
    Gz P main D (RetZ c cs Post) (G ((base f).at a []) (c :: cs)) w n := gz_end hI (gz_leave hI rfl hd hf hr (retZ_stop hp))
theorem resultsC_tmp3 {fn : Func} {t u x : Tmp} (h : fn.results = #[.tmp t, .tmp u, .tmp x]) (tmps : Array Value) : ResultsC P fn tmps (.tuple #[tmps.getD t undef, tmps.getD u undef, tmps.getD x undef]) := fun w => ⟨by simp [results, h], by simp [results, h]⟩
theorem resultsC_tmp4 {fn : Func} {t u x y : Tmp} (h : fn.results = #[.tmp t, .tmp u, .tmp x, .tmp y]) (tmps : Array Value) : ResultsC P fn tmps (.tuple #[tmps.getD t undef, tmps.getD u undef, tmps.getD x undef, tmps.getD y undef]) := fun w => ⟨by simp [results, h], by simp [results, h]⟩
/-- A deferred call of a Go function, and the way out through it. -/
theorem gz_defer (hI : DI D) {ops : Array Oper} {i : Nat} {rest : List Nat} {o : Oper} {f : FuncId} {as : Array Operand} {ats : Array TypeId} (ho : ops[i]? = some o) (hw : Region.wanted o (yielded ops a.tmps) = true) (hk : b.kind ≠ .early)
    (hop : o.op = .defer { callee := .value (.func f), args := as, argTypes := ats }) (h : Gz P main D Z (G (b.at (Act.put ⟨a.tmps, dcall f (as.map a.eval) :: a.defers⟩ o.dst undef) (.inRegion ops rest :: k)) cs) w n) :
    Gz P main D Z (G (b.at a (.inRegion ops (i :: rest) :: k)) cs) w n := gz_ctl hI rfl (fun _ => stepG_defer ho hw hk hop) h
theorem gz_unwind (hI : DI D) {todo : List Item} {f : FuncId} {fn : Func} {args : Array Value} {ds : List Deferred} {c : Code} (hd : a.defers = dcall f args :: ds) (hf : P.funcs[f]? = some fn) (hname : (fn.name == "runtime.NumGoroutine") = false) (hb : fn.body = some c)
    (h : Gz P main D Z (G ((baseD f).at { tmps := args ++ Array.replicate (fn.ntmps - args.size) undef, defers := [] } [.code c]) ({ b.at ⟨a.tmps, ds⟩ todo with mode := .returning } :: cs)) w n) :
    Gz P main D Z (G { b.at a todo with mode := .returning } cs) w n := gz_ctl hI rfl (fun _ => stepG_unwind_enter hd hf hname hb) h
theorem gz_leaveD (hI : DI D) {todo : List Item} {c : Frame} {fn : Func} {v : Value} (hn : b.kind = .deferred) (hd : a.defers = []) (hf : P.funcs[b.fn]? = some fn) (hr : ResultsC P fn a.tmps v) (hc : c.mode = .returning)
    (h : Gz P main D Z (G c cs) w n) : Gz P main D Z (G { b.at a todo with mode := .returning } (c :: cs)) w n := gz_ctl hI rfl (fun w => stepG_leave_deferred hn hd hf (hr w).1 (hr w).2 hc) h
/-- A stop that does not ask how deaf one is. -/
theorem gz_anyn {Z : Goroutine → World → Prop} {g : Goroutine} {n' : Nat} (h : Gz P main D (fun g w _ => Z g w) g w n) : Gz P main D (fun g w _ => Z g w) g w n' := by
  have := h.ind (I := fun g w _ => ∀ n', Gz P main D (fun g w _ => Z g w) g w n') (fun _ _ _ hz _ => gz_stop hz) fun _ _ _ hr hs n' => gz_step hr fun d => let ⟨g', w', es, a, b, _, c⟩ := hs d; ⟨g', w', es, a, b, c _⟩
  exact this n'
end
/-! ### when no goroutine is started any more, and the last stop does not ask how deaf one is -/
/-- The walk then. -/
def Gt (P : Program) (Z : Goroutine → World → Prop) (g : Goroutine) (w : World) : Prop := ∀ n, Gz P true DT (fun g w _ => Z g w) g w n
def RetT (c : Frame) (cs : List Frame) (Post : Value → World → Prop) (g : Goroutine) (w : World) : Prop := ∃ v W, g = G (c.finish v) cs ∧ (∃ d, w = W.at d) ∧ Post v W
def CallT (P : Program) (f : FuncId) (args : Array Value) (w : World) (Post : Value → World → Prop) : Prop := ∀ c cs, Gt P (RetT c cs Post) (G (Frame.enter P f args .normal) (c :: cs)) w
section
variable {P : Program} {Z Z' : Goroutine → World → Prop} {w : World} {b : Frame} {a : Act} {k : List Item} {cs : List Frame} {g : Goroutine}
theorem Gt.at (h : Gt P Z g w) (d : Nat) : Gt P Z g (w.at d) := fun n => (h n).at d
theorem Gt.bind (h : Gt P Z g w) (hZ : ∀ g w, Z g w → Gt P Z' g w) : Gt P Z' g w := fun n => (h n).bind fun g w n hz => hZ g w hz n
theorem gt_stop (h : ∀ d, Z g (w.at d)) : Gt P Z g w := fun n => gz_stop h
theorem gt_op {ops : Array Oper} {i : Nat} {rest : List Nat} {o : Oper} (ho : ops[i]? = some o) (hpl : plainOp o.op = true) (hw : Region.wanted o (yielded ops a.tmps) = true) (hk : b.kind ≠ .early)
    (h : ∀ d, ∀ K : Act → World → Prop, (∀ a' w', Gt P Z (G (b.at a' (.inRegion ops rest :: k)) cs) w' → K a' w') → uponK o a K ((execOp a.eval o).run P (w.at d))) :
    Gt P Z (G (b.at a (.inRegion ops (i :: rest) :: k)) cs) w := fun n => gz_op ho hw hk fun d K hK => h d K fun a' w' x => hK a' w' ⟨trivial, x _⟩
theorem gt_skip (hk : Gt P Z (G (b.at a k) cs) w) : Gt P Z (G (b.at a (.code .skip :: k)) cs) w := fun n => gz_skip di_T (hk n)
theorem gt_label {l : Nat} (hk : Gt P Z (G (b.at a k) cs) w) : Gt P Z (G (b.at a (.code (.label l) :: k)) cs) w := fun n => gz_label di_T (hk n)
theorem gt_inBlock {l : Nat} (hk : Gt P Z (G (b.at a k) cs) w) : Gt P Z (G (b.at a (.inBlock l :: k)) cs) w := fun n => gz_inBlock di_T (hk n)
theorem gt_inScope {c : Code} (hk : Gt P Z (G (b.at a k) cs) w) : Gt P Z (G (b.at a (.inScope c :: k)) cs) w := fun n => gz_inScope di_T (hk n)
theorem gt_scope {c : Code} (hk : Gt P Z (G (b.at a (.code c :: .inScope c :: k)) cs) w) : Gt P Z (G (b.at a (.code (.scope c) :: k)) cs) w := fun n => gz_scope di_T (hk n)
theorem gt_seq {x y : Code} (hk : Gt P Z (G (b.at a (.code x :: .code y :: k)) cs) w) : Gt P Z (G (b.at a (.code (.seq x y) :: k)) cs) w := fun n => gz_seq di_T (hk n)
theorem gt_block {l : Nat} {c : Code} (hk : Gt P Z (G (b.at a (.code c :: .inBlock l :: k)) cs) w) : Gt P Z (G (b.at a (.code (.block l c) :: k)) cs) w := fun n => gz_block di_T (hk n)
theorem gt_loop {c : Code} (hk : Gt P Z (G (b.at a (.code c :: .inLoop c :: k)) cs) w) : Gt P Z (G (b.at a (.code (.loop c) :: k)) cs) w := fun n => gz_loop di_T (hk n)
theorem gt_inLoop {c : Code} (hk : Gt P Z (G (b.at a (.code c :: .inLoop c :: k)) cs) w) : Gt P Z (G (b.at a (.inLoop c :: k)) cs) w := fun n => gz_inLoop di_T (hk n)
theorem gt_region {id : Nat} {ops : Array Oper} (hk : Gt P Z (G (b.at a (.inRegion ops (List.range ops.size) :: k)) cs) w) : Gt P Z (G (b.at a (.code (.region id ops false) :: k)) cs) w := fun n => gz_region di_T (hk n)
theorem gt_region_end {ops : Array Oper} (hk : Gt P Z (G (b.at a k) cs) w) : Gt P Z (G (b.at a (.inRegion ops [] :: k)) cs) w := fun n => gz_region_end di_T (hk n)
theorem gt_cond {c : Operand} {x y : Code} {t : Bool} (hc : a.eval c = .bool t) (hk : Gt P Z (G (b.at a (.code (if t then x else y) :: k)) cs) w) : Gt P Z (G (b.at a (.code (.cond c x y) :: k)) cs) w := fun n => gz_cond di_T hc (hk n)
theorem gt_cond_t {c : Operand} {x y : Code} (hc : a.eval c = .bool true) (hk : Gt P Z (G (b.at a (.code x :: k)) cs) w) : Gt P Z (G (b.at a (.code (.cond c x y) :: k)) cs) w := fun n => gz_cond_t di_T hc (hk n)
theorem gt_cond_f {c : Operand} {x y : Code} (hc : a.eval c = .bool false) (hk : Gt P Z (G (b.at a (.code y :: k)) cs) w) : Gt P Z (G (b.at a (.code (.cond c x y) :: k)) cs) w := fun n => gz_cond_f di_T hc (hk n)
theorem gt_exit {id : Nat} {k' : List Item} (h : exitTo id k = some k') (hk : Gt P Z (G (b.at a k') cs) w) : Gt P Z (G (b.at a (.code (.exit id) :: k)) cs) w := fun n => gz_exit di_T h (hk n)
theorem gt_goto {l : Nat} {k' : List Item} (h : gotoIn l k = some k') (hk : Gt P Z (G (b.at a k') cs) w) : Gt P Z (G (b.at a (.code (.goto l) :: k)) cs) w := fun n => gz_goto di_T h (hk n)
theorem gt_ret (hk : Gt P Z (G { b.at a (.code .ret :: k) with mode := .returning } cs) w) : Gt P Z (G (b.at a (.code .ret :: k)) cs) w := fun n => gz_ret di_T (hk n)
theorem gt_end (hk : Gt P Z (G { b.at a [] with mode := .returning } cs) w) : Gt P Z (G (b.at a []) cs) w := fun n => gz_end di_T (hk n)
theorem gt_unwanted {ops : Array Oper} {i : Nat} {rest : List Nat} {o : Oper} (ho : ops[i]? = some o) (hw : Region.wanted o (yielded ops a.tmps) = false) (hk : Gt P Z (G (b.at (a.put o.dst undef) (.inRegion ops rest :: k)) cs) w) : Gt P Z (G (b.at a (.inRegion ops (i :: rest) :: k)) cs) w := fun n => gz_unwanted di_T ho hw (hk n)
theorem gt_split {c : Operand} {x y : Code} {t : Bool} (hc : a.eval c = .bool t) (h1 : t = true → Gt P Z (G (b.at a (.code x :: k)) cs) w) (h2 : t = false → Gt P Z (G (b.at a (.code y :: k)) cs) w) : Gt P Z (G (b.at a (.code (.cond c x y) :: k)) cs) w :=
  fun n => gz_split di_T hc (fun e => h1 e n) (fun e => h2 e n)
theorem gt_enter {ops : Array Oper} {i : Nat} {rest : List Nat} {o : Oper} {f : FuncId} {args : Array Value} (ho : ops[i]? = some o) (hw : Region.wanted o (yielded ops a.tmps) = true) (hk : b.kind ≠ .early)
    (hr : ∀ w, (execOp a.eval o).run P w = .ok (.enter f args) w) (he : ∀ w, (execOp a.eval o).events P w #[] = #[])
    (h : Gt P Z (G (Frame.enter P f args .normal) (b.at a (.inRegion ops (i :: rest) :: k) :: cs)) w) : Gt P Z (G (b.at a (.inRegion ops (i :: rest) :: k)) cs) w := fun n => gz_enter di_T ho hw hk hr he (h n)
theorem gt_call {ops : Array Oper} {i : Nat} {rest : List Nat} {o : Oper} {f : FuncId} {args : Array Value} {Post : Value → World → Prop} (ho : ops[i]? = some o) (hw : Region.wanted o (yielded ops a.tmps) = true) (hk : b.kind ≠ .early)
    (hr : ∀ w, (execOp a.eval o).run P w = .ok (.enter f args) w) (he : ∀ w, (execOp a.eval o).events P w #[] = #[]) (hc : CallT P f args w Post)
    (h : ∀ v W, Post v W → Gt P Z (G (b.at (a.put o.dst v) (.inRegion ops rest :: k)) cs) W) : Gt P Z (G (b.at a (.inRegion ops (i :: rest) :: k)) cs) w := by
  refine gt_enter ho hw hk hr he ((hc _ _).bind fun g w' ⟨v, W, e, ⟨d, ed⟩, p⟩ => ?_)
  subst e; subst ed
  rw [finish_op ho]
  exact (h v W p).at d
theorem gt_callf {ops : Array Oper} {i : Nat} {rest : List Nat} {o : Oper} {f : FuncId} {fn : Func} {args : Array Operand} {ats : Array TypeId} {x : Operand} {first captured : Array Value} {Post : Value → World → Prop}
    (ho : ops[i]? = some o) (hw : Region.wanted o (yielded ops a.tmps) = true) (hk : b.kind ≠ .early) (hop : o.op = .call { callee := .value x, args, argTypes := ats }) (hx : a.eval x = .func (.func f) first captured)
    (hf : P.funcs[f]? = some fn) (hname : (fn.name == "runtime.NumGoroutine") = false) (hb : fn.body.isSome = true) {as : Array Value} (hc : CallT P f as w Post) (ha : first ++ args.map a.eval ++ captured = as)
    (h : ∀ v W, Post v W → Gt P Z (G (b.at (a.put o.dst v) (.inRegion ops rest :: k)) cs) W) : Gt P Z (G (b.at a (.inRegion ops (i :: rest) :: k)) cs) w :=
  gt_call ho hw hk (run_call hop hx hf hname hb) (events_call hop hx hf hname hb) (ha ▸ hc) h
theorem CallT.mono {f : FuncId} {args : Array Value} {Post Post' : Value → World → Prop} (h : CallT P f args w Post) (hp : ∀ v w, Post v w → Post' v w) : CallT P f args w Post' :=
  fun c cs n => (h c cs n).mono (fun _ _ _ x => x) fun _ _ _ ⟨v, W, e, d, p⟩ => ⟨v, W, e, d, hp _ _ p⟩
/-- A contract at any deafness serves. -/
theorem CallT.of {D : World → World → Array Event → Prop} {f : FuncId} {args : Array Value} {Post : Value → World → Prop} (h : ∀ n, CallZ P true D f args w n fun v w _ => Post v w) : CallT P f args w Post :=
  fun c cs n => (h n c cs).mono (fun _ _ _ _ => trivial) fun _ _ _ x => x
theorem callT_of {f : FuncId} {fn : Func} {c : Code} {args : Array Value} {Post : Value → World → Prop} (hf : P.funcs[f]? = some fn) (hb : fn.body = some c)
    (h : ∀ c' cs, Gt P (RetT c' cs Post) (G ((base f).at { tmps := args ++ Array.replicate (fn.ntmps - args.size) undef, defers := [] } [.code c]) (c' :: cs)) w) : CallT P f args w Post := fun c' cs => by
  rw [enter_at args hf hb]; exact h c' cs
theorem gt_leave {c : Frame} {todo : List Item} {fn : Func} {v : Value} (hn : b.kind = .normal) (hd : a.defers = []) (hf : P.funcs[b.fn]? = some fn) (hr : ResultsC P fn a.tmps v)
    (h : Gt P Z (G (c.finish v) cs) w) : Gt P Z (G { b.at a todo with mode := .returning } (c :: cs)) w := fun n => gz_leave di_T hn hd hf hr (h n)
theorem retT_stop {c : Frame} {Post : Value → World → Prop} {v : Value} (hp : Post v w) : Gt P (RetT c cs Post) (G (c.finish v) cs) w := gt_stop fun d => ⟨v, w, rfl, ⟨d, rfl⟩, hp⟩
theorem gt_return {f : FuncId} {c : Frame} {fn : Func} {Post : Value → World → Prop} {v : Value} (hd : a.defers = []) (hf : P.funcs[f]? = some fn) (hr : ResultsC P fn a.tmps v) (hp : Post v w) :
    Gt P (RetT c cs Post) (G ((base f).at a (.code .ret :: k)) (c :: cs)) w := gt_ret (gt_leave rfl hd hf hr (retT_stop hp))
theorem gt_return_end {f : FuncId} {c : Frame} {fn : Func} {Post : Value → World → Prop} {v : Value} (hd : a.defers = []) (hf : P.funcs[f]? = some fn) (hr : ResultsC P fn a.tmps v) (hp : Post v w) :
    Gt P (RetT c cs Post) (G ((base f).at a []) (c :: cs)) w := gt_end (gt_leave rfl hd hf hr (retT_stop hp))
end
end Go.Proofs.Ytekmbijlaonnmaa.Z
