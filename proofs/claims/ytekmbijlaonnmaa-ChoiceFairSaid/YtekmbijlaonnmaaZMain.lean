/-
  Goroutine 0's way while all others only leave, with stretches in between in which the token goes round.
-/
import Derived.Test.YtekmbijlaonnmaaZDraw
set_option linter.unusedSimpArgs false
set_option linter.unusedVariables false
namespace Go.Proofs.Ytekmbijlaonnmaa.Z
open Go.Conc
/-- From g, w, deaf n deep, goroutine 0 COMES TO Z, whatever the machine draws; all others only leave, here and there. -/
def Mz (P : Program) (Z : Goroutine → World → Nat → Prop) (g : Goroutine) (w : World) (n : Nat) : Prop :=
  ∀ (d : Nat) (gs : Array Goroutine) (sl : Option (Nat × Nat)) (T : Trace) (q : Nat → Nat), gs[0]? = some g → Lf P JT n T gs (w.at d) q →
    ∃ (N : Nat) (gs' : Array Goroutine) (g' : Goroutine) (w' : World) (n' : Nat) (sl' : Option (Nat × Nat)) (T' : Trace) (q' : Nat → Nat),
      runNT P N (crowd gs (w.at d) sl) T = (.next (crowd gs' w' sl'), T') ∧ gs'[0]? = some g' ∧ Z g' w' n' ∧ Lf P JT n' T' gs' w' q'
section
variable {P : Program} {Z Z' : Goroutine → World → Nat → Prop} {g : Goroutine} {w : World} {n : Nat}
theorem mz_stop (h : ∀ d, Z g (w.at d) n) : Mz P Z g w n := fun d gs sl T q ha L => ⟨0, gs, g, w.at d, n, sl, T, q, rfl, ha, h d, L⟩
theorem Mz.at (h : Mz P Z g w n) (d : Nat) : Mz P Z g (w.at d) n := fun d' gs sl T q ha L => h d' gs sl T q ha L
theorem Mz.bind (h : Mz P Z g w n) (hZ : ∀ g w n, Z g w n → Mz P Z' g w n) : Mz P Z' g w n := fun d gs sl T q ha L => by
  obtain ⟨N, gs₁, g₁, w₁, n₁, sl₁, T₁, q₁, hr, ha₁, hz, L₁⟩ := h d gs sl T q ha L
  obtain ⟨N₂, gs₂, g₂, w₂, n₂, sl₂, T₂, q₂, hr₂, ha₂, hz₂, L₂⟩ := hZ _ _ _ hz w₁.drawn gs₁ sl₁ T₁ q₁ ha₁ L₁
  exact ⟨N + N₂, gs₂, g₂, w₂, n₂, sl₂, T₂, q₂, runNT_then hr hr₂, ha₂, hz₂, L₂⟩
theorem Mz.mono (h : Mz P Z g w n) (hZ : ∀ g w n, Z g w n → Z' g w n) : Mz P Z' g w n := fun d gs sl T q ha L => by
  obtain ⟨N, gs₁, g₁, w₁, n₁, sl₁, T₁, q₁, hr, ha₁, hz, L₁⟩ := h d gs sl T q ha L
  exact ⟨N, gs₁, g₁, w₁, n₁, sl₁, T₁, q₁, hr, ha₁, hZ _ _ _ hz, L₁⟩
theorem Mz.of_gz (h : Gz P true DT Z g w n) : Mz P Z g w n := fun d gs sl T q ha L => by
  obtain ⟨N, gs', a', w', n', sl', T', q', hr, _, ha', hz, L'⟩ := holdL (sl := sl) jok_T (h.at d) ha L
  exact ⟨N, gs', a', w', n', sl', T', q', hr, ha', hz, L'⟩
/-- A walk up to where such a stretch begins. -/
theorem mz_walk (h : Gz P true DT (Mz P Z) g w n) : Mz P Z g w n := (Mz.of_gz h).bind fun _ _ _ x => x
theorem gz_mz (h : Mz P Z g w n) : Gz P true DT (Mz P Z) g w n := gz_stop fun d => h.at d
end
/-- A CONTRACT of a function that may play a run. -/
def CallM (P : Program) (f : FuncId) (args : Array Value) (w : World) (n : Nat) (Post : Value → World → Nat → Prop) : Prop :=
  ∀ c cs, Mz P (RetZ c cs Post) (G (Frame.enter P f args .normal) (c :: cs)) w n
section
variable {P : Program} {Z : Goroutine → World → Nat → Prop} {w : World} {n : Nat} {b : Frame} {a : Act} {k : List Item} {cs : List Frame}
theorem CallZ.toM {f : FuncId} {args : Array Value} {Post : Value → World → Nat → Prop} (h : CallZ P true DT f args w n Post) : CallM P f args w n Post := fun c cs => Mz.of_gz (h c cs)
theorem CallM.mono {f : FuncId} {args : Array Value} {Post Post' : Value → World → Nat → Prop} (h : CallM P f args w n Post) (hp : ∀ v w n, Post v w n → Post' v w n) : CallM P f args w n Post' :=
  fun c cs => (h c cs).mono fun _ _ _ ⟨v, W, e, d, p⟩ => ⟨v, W, e, d, hp _ _ _ p⟩
/-- Through a call of such a function. -/
theorem gm_call {ops : Array Oper} {i : Nat} {rest : List Nat} {o : Oper} {f : FuncId} {args : Array Value} {Post : Value → World → Nat → Prop} (ho : ops[i]? = some o) (hw : Region.wanted o (yielded ops a.tmps) = true) (hk : b.kind ≠ .early)
    (hr : ∀ w, (execOp a.eval o).run P w = .ok (.enter f args) w) (he : ∀ w, (execOp a.eval o).events P w #[] = #[]) (hc : CallM P f args w n Post)
    (h : ∀ v W n', Post v W n' → Gz P true DT (Mz P Z) (G (b.at (a.put o.dst v) (.inRegion ops rest :: k)) cs) W n') : Gz P true DT (Mz P Z) (G (b.at a (.inRegion ops (i :: rest) :: k)) cs) w n := by
  refine gz_enter di_T ho hw hk hr he (gz_mz ((hc _ _).bind fun g w' n' ⟨v, W, e, ⟨d, ed⟩, p⟩ => ?_))
  subst e; subst ed
  rw [finish_op ho]
  exact (mz_walk (h v W n' p)).at d
theorem gm_callf {ops : Array Oper} {i : Nat} {rest : List Nat} {o : Oper} {f : FuncId} {fn : Func} {args : Array Operand} {ats : Array TypeId} {x : Operand} {first captured : Array Value} {Post : Value → World → Nat → Prop}
    (ho : ops[i]? = some o) (hw : Region.wanted o (yielded ops a.tmps) = true) (hk : b.kind ≠ .early) (hop : o.op = .call { callee := .value x, args, argTypes := ats }) (hx : a.eval x = .func (.func f) first captured)
    (hf : P.funcs[f]? = some fn) (hname : (fn.name == "runtime.NumGoroutine") = false) (hb : fn.body.isSome = true) {as : Array Value} (hc : CallM P f as w n Post) (ha : first ++ args.map a.eval ++ captured = as)
    (h : ∀ v W n', Post v W n' → Gz P true DT (Mz P Z) (G (b.at (a.put o.dst v) (.inRegion ops rest :: k)) cs) W n') : Gz P true DT (Mz P Z) (G (b.at a (.inRegion ops (i :: rest) :: k)) cs) w n :=
  gm_call ho hw hk (run_call hop hx hf hname hb) (events_call hop hx hf hname hb) (ha ▸ hc) h
/-- How such a contract is entered. -/
theorem callM_of {f : FuncId} {fn : Func} {c : Code} {args : Array Value} {Post : Value → World → Nat → Prop} (hf : P.funcs[f]? = some fn) (hb : fn.body = some c)
    (h : ∀ c' cs, Gz P true DT (Mz P (RetZ c' cs Post)) (G ((base f).at { tmps := args ++ Array.replicate (fn.ntmps - args.size) undef, defers := [] } [.code c]) (c' :: cs)) w n) : CallM P f args w n Post := fun c' cs => by
  rw [enter_at args hf hb]; exact mz_walk (h c' cs)
/-- Its return. -/
theorem gm_ret {c : Frame} {Post : Value → World → Nat → Prop} {g : Goroutine} (h : Gz P true DT (RetZ c cs Post) g w n) : Gz P true DT (Mz P (RetZ c cs Post)) g w n := h.mono (fun _ _ _ x => x) fun _ _ _ ⟨v, W, e, ⟨d, ed⟩, p⟩ => mz_stop fun d' => ⟨v, W, e, ⟨d', by subst ed; rfl⟩, p⟩
end
/-- THE RUN ENDS WELL. -/
theorem finM {P : Program} {Post : Value → World → Prop} {a : Goroutine} {w : World} {n : Nat} (hG : Mz P (AtFin P Post) a w n) {T : Trace} {gs : Array Goroutine} {q : Nat → Nat} {sl : Option (Nat × Nat)} (ha : gs[0]? = some a) (L : Lf P JT n T gs w q) :
    ∃ N last o w' t', runNT P (N + 1) (crowd gs w sl) T = (.ended o w', t') ∧ runN P N (crowd gs w sl) = .next last ∧ step P last = .ended o w' ∧ Good P Post last o w' t' := by
  obtain ⟨N, gs₁, a₁, w₁, n₁, sl₁, T₁, q₁, hr, ha₁, hz, L₁⟩ := hG w.drawn gs sl T q ha L
  obtain ⟨hrun, v, hend, hpost⟩ := hz
  obtain ⟨N', last, o, w', t', e1, e2, e3, e4⟩ := finL (sl := sl₁) jok_T (gz_stop (P := P) (main := true) (D := DT) (n := n₁) (w := w₁) (Z := AtFin P Post) fun d => ⟨hrun, v, fun d' => by rw [at_at']; exact hend d', fun d' => by rw [at_at']; exact hpost d'⟩) ha₁ L₁
  refine ⟨N + N', last, o, w', t', ?_, ?_, e3, e4⟩
  · rw [Nat.add_assoc, runNT_add]
    have hr' : runNT P N (crowd gs w sl) T = (.next (crowd gs₁ w₁ sl₁), T₁) := hr
    rw [hr']; exact e1
  · have hr' : runNT P N (crowd gs w sl) T = (.next (crowd gs₁ w₁ sl₁), T₁) := hr
    rw [runN_add, ← runNT_fst P _ _ T, hr']; exact e2
end Go.Proofs.Ytekmbijlaonnmaa.Z
