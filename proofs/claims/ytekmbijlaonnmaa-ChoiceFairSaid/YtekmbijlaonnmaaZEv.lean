/-
  What comparisons with nil list: nothing.
-/
import Derived.Test.YtekmbijlaonnmaaZWalk
set_option linter.unusedSimpArgs false
set_option linter.unusedVariables false
namespace Go.Proofs.Ytekmbijlaonnmaa.Z
open Go.Conc
section
variable {P : Program} {w : World}
theorem ev_equalIn_ptr {t e : TypeId} (hu : P.underlying t = some (.pointer e)) (d : Nat) (p : Option Addr) (es : Array Event) : (Op.equalIn (d+1) t (.pointer p) (.pointer none)).events P w es = es := by
  rw [Op.equalIn]
  simp only [Sem.events_bind, run_underlying hu, Result.evThen_ok, events_underlying]
  cases p <;> simp
theorem ev_equalIn_ptr' {t e : TypeId} (hu : P.underlying t = some (.pointer e)) (d : Nat) (p : Option Addr) (es : Array Event) : (Op.equalIn (d+1) t (.pointer none) (.pointer p)).events P w es = es := by
  rw [Op.equalIn]
  simp only [Sem.events_bind, run_underlying hu, Result.evThen_ok, events_underlying]
  simp
theorem ev_equalIn_chan {t e : TypeId} {dir : ChanDir} (hu : P.underlying t = some (.chan dir e)) (d : Nat) (p q : Option Nat) (es : Array Event) : (Op.equalIn (d+1) t (.chan p) (.chan q)).events P w es = es := by
  rw [Op.equalIn]
  simp only [Sem.events_bind, run_underlying hu, Result.evThen_ok, events_underlying]
  simp
theorem ev_eql_of {t : TypeId} {x y : Value} (hx : ∀ op, (op = BinOp.eql) → binOp op t x y = (do pure (Value.bool (← Op.equal t x y)))) (h : ∀ es, (Op.equalIn (9999 + 1) t x y).events P w es = es) (es : Array Event) : (binOp .eql t x y).events P w es = es := by
  rw [hx .eql rfl]
  change Sem.events P (do pure (Value.bool (← Op.equalIn (9999 + 1) t x y))) w es = es
  simp [h]
theorem ev_neq_of {t : TypeId} {x y : Value} (hx : binOp .neq t x y = (do pure (Value.bool (!(← Op.equal t x y))))) (h : ∀ es, (Op.equalIn (9999 + 1) t x y).events P w es = es) (es : Array Event) : (binOp .neq t x y).events P w es = es := by
  rw [hx]
  change Sem.events P (do pure (Value.bool (!(← Op.equalIn (9999 + 1) t x y)))) w es = es
  simp [h]
@[go_sem] def isPtrT (P : Program) (t : TypeId) : Bool := match P.underlying t with | some (.pointer _) => true | _ => false
@[go_sem] def isChanT (P : Program) (t : TypeId) : Bool := match P.underlying t with | some (.chan _ _) => true | _ => false
theorem isPtrT_spec {t : TypeId} (h : isPtrT P t = true) : ∃ e, P.underlying t = some (.pointer e) := by
  unfold isPtrT at h
  split at h
  · rename_i e he; exact ⟨e, he⟩
  · cases h
theorem isChanT_spec {t : TypeId} (h : isChanT P t = true) : ∃ d e, P.underlying t = some (.chan d e) := by
  unfold isChanT at h
  split at h
  · rename_i d e he; exact ⟨d, e, he⟩
  · cases h
@[go_sem] theorem ev_eql_ptr {t : TypeId} (hu : isPtrT P t = true) (p : Option Addr) (es : Array Event) : (binOp .eql t (.pointer p) (.pointer none)).events P w es = es :=
  let ⟨_, h⟩ := isPtrT_spec hu; ev_eql_of (fun _ h => by subst h; rfl) (ev_equalIn_ptr h 9999 p) es
@[go_sem] theorem ev_neq_ptr {t : TypeId} (hu : isPtrT P t = true) (p : Option Addr) (es : Array Event) : (binOp .neq t (.pointer p) (.pointer none)).events P w es = es :=
  let ⟨_, h⟩ := isPtrT_spec hu; ev_neq_of rfl (ev_equalIn_ptr h 9999 p) es
@[go_sem] theorem ev_eql_chan {t : TypeId} (hu : isChanT P t = true) (p q : Option Nat) (es : Array Event) : (binOp .eql t (.chan p) (.chan q)).events P w es = es :=
  let ⟨_, _, h⟩ := isChanT_spec hu; ev_eql_of (fun _ h => by subst h; rfl) (ev_equalIn_chan h 9999 p q) es
@[go_sem] theorem ev_neq_chan {t : TypeId} (hu : isChanT P t = true) (p q : Option Nat) (es : Array Event) : (binOp .neq t (.chan p) (.chan q)).events P w es = es :=
  let ⟨_, _, h⟩ := isChanT_spec hu; ev_neq_of rfl (ev_equalIn_chan h 9999 p q) es
end
section
variable {P : Program} {w : World} (a : Addr) (m : Mode) (es : Array Event)
@[go_sem] theorem zev_store_bool (b : Bool) : (store a (.bool b) m).events P w es = storedEv P w es a (.bool b) m := events_store P w es a _ m rfl
@[go_sem] theorem zev_store_pointer (b : Option Addr) : (store a (.pointer b) m).events P w es = storedEv P w es a (.pointer b) m := events_store P w es a _ m rfl
@[go_sem] theorem zev_store_slice (b : Option Addr) (l c : Nat) : (store a (.slice b l c) m).events P w es = storedEv P w es a (.slice b l c) m := events_store P w es a _ m rfl
@[go_sem] theorem zev_store_string (s : ByteArray) : (store a (.string s) m).events P w es = storedEv P w es a (.string s) m := events_store P w es a _ m rfl
@[go_sem] theorem zev_store_func (f : Fn) (x y : Array Value) : (store a (.func f x y) m).events P w es = storedEv P w es a (.func f x y) m := events_store P w es a _ m rfl
@[go_sem] theorem zev_store_nilFunc  : (store a (.nilFunc) m).events P w es = storedEv P w es a (.nilFunc) m := events_store P w es a _ m rfl
@[go_sem] theorem zev_store_iface (t : TypeId) (v : Value) : (store a (.iface t v) m).events P w es = storedEv P w es a (.iface t v) m := events_store P w es a _ m rfl
@[go_sem] theorem zev_store_nilIface  : (store a (.nilIface) m).events P w es = storedEv P w es a (.nilIface) m := events_store P w es a _ m rfl
@[go_sem] theorem zev_store_map (r : Option Nat) : (store a (.map r) m).events P w es = storedEv P w es a (.map r) m := events_store P w es a _ m rfl
end
section
variable {P : Program} {w : World}
@[go_sem] def ptrOk (P : Program) (t : TypeId) : Bool := match P.underlying t with | some (.pointer e) => (P.info? e).isSome | _ => false
theorem ptrOk_spec {t : TypeId} (h : ptrOk P t = true) : ∃ e j, P.underlying t = some (.pointer e) ∧ P.info? e = some j := by
  unfold ptrOk at h
  split at h
  · rename_i e he
    obtain ⟨j, hj⟩ := Option.isSome_iff_exists.1 h
    exact ⟨e, j, he, hj⟩
  · cases h
theorem sameAddr_self (a : Addr) : sameAddr a a = pure true := by simp [sameAddr]
theorem zrun_equalIn_same {t e : TypeId} {j : TypeInfo} (hp : P.underlying t = some (.pointer e)) (hj : P.info? e = some j) (d : Nat) (a : Addr) : (Op.equalIn (d + 1) t (.pointer (some a)) (.pointer (some a))).run P w = .ok true w := by
  rw [Op.equalIn]
  simp only [Sem.run_bind, run_underlying hp, Result.andThen_ok, sizeOf, typeInfo, sameAddr_self]
  simp [hj]
theorem zev_equalIn_same {t e : TypeId} {j : TypeInfo} (hp : P.underlying t = some (.pointer e)) (hj : P.info? e = some j) (d : Nat) (a : Addr) (es : Array Event) : (Op.equalIn (d + 1) t (.pointer (some a)) (.pointer (some a))).events P w es = es := by
  rw [Op.equalIn]
  simp only [Sem.events_bind, run_underlying hp, Result.evThen_ok, events_underlying, sizeOf, typeInfo, sameAddr_self]
  simp [hj]
@[go_sem] theorem zrun_neq_same {t : TypeId} (h : ptrOk P t = true) (a : Addr) : (binOp .neq t (.pointer (some a)) (.pointer (some a))).run P w = .ok (.bool false) w := by
  obtain ⟨e, j, hp, hj⟩ := ptrOk_spec h
  change Sem.run P (do pure (Value.bool (!(← Op.equalIn (9999 + 1) t _ _)))) w = _
  simp [zrun_equalIn_same hp hj]
@[go_sem] theorem zrun_eql_same {t : TypeId} (h : ptrOk P t = true) (a : Addr) : (binOp .eql t (.pointer (some a)) (.pointer (some a))).run P w = .ok (.bool true) w := by
  obtain ⟨e, j, hp, hj⟩ := ptrOk_spec h
  change Sem.run P (do pure (Value.bool (← Op.equalIn (9999 + 1) t _ _))) w = _
  simp [zrun_equalIn_same hp hj]
@[go_sem] theorem zev_neq_same {t : TypeId} (h : ptrOk P t = true) (a : Addr) (es : Array Event) : (binOp .neq t (.pointer (some a)) (.pointer (some a))).events P w es = es := by
  obtain ⟨e, j, hp, hj⟩ := ptrOk_spec h
  exact ev_neq_of rfl (zev_equalIn_same hp hj 9999 a) es
@[go_sem] theorem zev_eql_same {t : TypeId} (h : ptrOk P t = true) (a : Addr) (es : Array Event) : (binOp .eql t (.pointer (some a)) (.pointer (some a))).events P w es = es := by
  obtain ⟨e, j, hp, hj⟩ := ptrOk_spec h
  exact ev_eql_of (fun _ h => by subst h; rfl) (zev_equalIn_same hp hj 9999 a) es
end
end Go.Proofs.Ytekmbijlaonnmaa.Z
