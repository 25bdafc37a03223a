/- LM: operators. -/
import Derived.Test.YtipoadjhenjpiaaLmS1
set_option linter.unusedVariables false
set_option linter.unusedSimpArgs false
namespace Go.LM

section
variable {P : Program} {F : Nat → Prop} {w : World} {β : Nat → Option Conc}

theorem sim_int {T : TypeId} {op : BinOp} {k k' : IntKind} {x y : Int} {c : AV} (h : exInt op k x k' y = some c) (hx : k = .u8 → 0 ≤ x ∧ x < 256) :
    ∃ r, (binOp op T (.int k x) (.int k' y)).run P w = .ok r w ∧ RelV F w β c r := by
  cases op
  case shl =>
    simp only [exInt] at h
    split at h <;> cases h
    rename_i h0
    refine ⟨.int k (k.wrap (x * 2 ^ min y.toNat k.bits)), ?_, RelV.int ?_⟩
    · simp [binOp, Op.shift, Int.not_lt.mpr h0, pure, Sem.run]
    · rw [toI_wrI]; simp
  case shr =>
    simp only [exInt] at h
    split at h <;> cases h
    rename_i h0
    refine ⟨.int k (x.fdiv (2 ^ min y.toNat k.bits)), ?_, RelV.int ?_⟩
    · simp [binOp, Op.shift, Int.not_lt.mpr h0, pure, Sem.run]
    · rw [fdiv_pow, toI_ofI]
      intro hk
      have := hx hk
      have hp : 0 < ((2 ^ min y.toNat k.bits : Nat) : Int) := by exact_mod_cast Nat.two_pow_pos _
      refine ⟨Int.ediv_nonneg this.1 (by omega), ?_⟩
      have := Int.ediv_le_self ((2 ^ min y.toNat k.bits : Nat) : Int) this.1
      omega
  all_goals
    simp only [exInt] at h
    split at h
    rotate_left
    · cases h
    rename_i hk
    subst hk
  case add => cases h; exact ⟨_, by simp [binOp, Op.intArith, pure, Sem.run], RelV.int (toI_wrI _ _)⟩
  case sub => cases h; exact ⟨_, by simp [binOp, Op.intArith, pure, Sem.run], RelV.int (toI_wrI _ _)⟩
  case mul => cases h; exact ⟨_, by simp [binOp, Op.intArith, pure, Sem.run], RelV.int (toI_wrI _ _)⟩
  case quo =>
    split at h <;> cases h
    rename_i h0
    exact ⟨_, by simp [binOp, Op.intDiv, h0, pure, Sem.run], RelV.int (toI_wrI _ _)⟩
  case rem =>
    split at h <;> cases h
    rename_i h0
    exact ⟨_, by simp [binOp, Op.intDiv, h0, pure, Sem.run], RelV.int (toI_ofI _ _ fun hk => tmod_u8 _ _ (hx hk))⟩
  case and => cases h; exact ⟨_, by simp only [binOp, ne_eq, not_true_eq_false, if_false]; exact intBits_run P w .and k x y (by simp), RelV.int (toI_wrI _ _)⟩
  case or => cases h; exact ⟨_, by simp only [binOp, ne_eq, not_true_eq_false, if_false]; exact intBits_run P w .or k x y (by simp), RelV.int (toI_wrI _ _)⟩
  case xor => cases h; exact ⟨_, by simp only [binOp, ne_eq, not_true_eq_false, if_false]; exact intBits_run P w .xor k x y (by simp), RelV.int (toI_wrI _ _)⟩
  case andNot => cases h; exact ⟨_, by simp only [binOp, ne_eq, not_true_eq_false, if_false]; exact intBits_run P w .andNot k x y (by simp), RelV.int (toI_wrI _ _)⟩
  all_goals (cases h; exact ⟨_, by simp [binOp, Op.intCmp, pure, Sem.run], RelV.bool _⟩)

theorem sim_str {T : TypeId} {op : BinOp} {x y : List UInt8} {c : AV} (h : exStr op x y = some c) :
    ∃ r, (binOp op T (.string ⟨x.toArray⟩) (.string ⟨y.toArray⟩)).run P w = .ok r w ∧ RelV F w β c r := by
  have htl : ∀ l : List UInt8, (ByteArray.mk l.toArray).toList = l := fun l => ByteArray.toList_mk l
  cases op <;> simp only [exStr] at h
  case add =>
    split at h <;> cases h
    rename_i h0
    refine ⟨.string ⟨(x ++ y).toArray⟩, ?_, RelV.str _⟩
    have hs : ∀ l : List UInt8, (ByteArray.mk l.toArray).size = l.length := fun l => by simp [ByteArray.size]
    have hle : ¬ ((((ByteArray.mk x.toArray).size + (ByteArray.mk y.toArray).size : Nat) : Int) > IntKind.i64.max) := by
      rw [hs, hs]; simp [IntKind.max, IntKind.signed, IntKind.bits]; omega
    simp only [binOp, Op.stringOp]
    rw [if_neg hle]
    simp only [pure, Sem.run]
    congr 2
  case eql => cases h; exact ⟨_, by simp only [binOp, Op.stringOp, htl, pure, Sem.run], RelV.bool _⟩
  case neq => cases h; exact ⟨_, by simp only [binOp, Op.stringOp, htl, pure, Sem.run], RelV.bool _⟩
  all_goals cases h

theorem guard_int (op : BinOp) (T : TypeId) (x y : Operand) (k k' : IntKind) (a b : Int) : (eqGuard op T x y (.int k a) (.int k' b)).run P w = .ok () w := by
  cases op <;> simp [eqGuard, pure, Sem.run]
theorem guard_str (op : BinOp) (T : TypeId) (x y : Operand) (a b : ByteArray) : (eqGuard op T x y (.string a) (.string b)).run P w = .ok () w := by
  cases op <;> simp [eqGuard, pure, Sem.run]
theorem guard_bool (op : BinOp) (T : TypeId) (x y : Operand) (a b : Bool) : (eqGuard op T x y (.bool a) (.bool b)).run P w = .ok () w := by
  cases op <;> simp [eqGuard, pure, Sem.run]
theorem guard_ptr (op : BinOp) (T : TypeId) (x y : Operand) (a b : Option Addr) : (eqGuard op T x y (.pointer a) (.pointer b)).run P w = .ok () w := by
  cases op <;> simp [eqGuard, pure, Sem.run]

theorem eq_bool (d : Nat) {T : TypeId} (h : P.underlying T = some .bool) (a b : Bool) : (Op.equalIn (d + 1) T (.bool a) (.bool b)).run P w = .ok (a == b) w := by
  simp [Op.equalIn, run_underlying h, pure, Sem.run]
theorem eq_ptr_nil (d : Nat) {T e : TypeId} (h : P.underlying T = some (.pointer e)) (a : Addr) : (Op.equalIn (d + 1) T (.pointer (some a)) (.pointer none)).run P w = .ok false w := by
  simp [Op.equalIn, run_underlying h, pure, Sem.run]
theorem eq_nil_nil (d : Nat) {T e : TypeId} (h : P.underlying T = some (.pointer e)) : (Op.equalIn (d + 1) T (.pointer none) (.pointer none)).run P w = .ok true w := by
  simp [Op.equalIn, run_underlying h, pure, Sem.run]
theorem equal_def (T : TypeId) (x y : Value) : Op.equal T x y = Op.equalIn (9999 + 1) T x y := rfl

theorem und {T : TypeId} {d : TypeDesc} (h : P.underlying T = some d) : (underlying T).run P w = .ok d w := run_underlying h w

theorem sim_bin {T : TypeId} {op : BinOp} {x y : Operand} {a b c : AV} {u v : Value} (h : exBin P T op a b = some c) (ha : RelV F w β a u) (hb : RelV F w β b v) :
    ∃ r, ((do eqGuard op T x y u v; binOp op T u v) : Sem Value).run P w = .ok r w ∧ RelV F w β c r := by
  unfold exBin at h
  split at h
  · rename_i k p k' q
    rw [ha.int_inv, hb.int_inv]
    obtain ⟨r, h1, h2⟩ := sim_int (P := P) (F := F) (w := w) (β := β) (T := T) h (fun e => by subst e; exact toI_u8 _)
    exact ⟨r, by simp only [Sem.run_bind, guard_int, Result.andThen_ok, h1], h2⟩
  · rename_i p q
    rw [ha.str_inv, hb.str_inv]
    obtain ⟨r, h1, h2⟩ := sim_str (P := P) (F := F) (w := w) (β := β) (T := T) h
    exact ⟨r, by simp only [Sem.run_bind, guard_str, Result.andThen_ok, h1], h2⟩
  · rename_i p q
    rw [ha.bool_inv, hb.bool_inv]
    split at h
    · rename_i ht
      cases h
      exact ⟨.bool (p == q), by simp [guard_bool, binOp, equal_def, eq_bool _ ht, pure, Sem.run], RelV.bool _⟩
    · rename_i ht
      cases h
      exact ⟨.bool (!(p == q)), by simp [guard_bool, binOp, equal_def, eq_bool _ ht, pure, Sem.run], RelV.bool _⟩
    · cases h
  · obtain ⟨_, b', o, rfl, _, _, _⟩ := ha.ptr_inv
    rw [hb.nilP_inv]
    split at h
    · rename_i ht
      cases h
      exact ⟨.bool false, by simp [guard_ptr, binOp, equal_def, eq_ptr_nil _ ht, eq_nil_nil _ ht, pure, Sem.run], RelV.bool _⟩
    · rename_i ht
      cases h
      exact ⟨.bool true, by simp [guard_ptr, binOp, equal_def, eq_ptr_nil _ ht, eq_nil_nil _ ht, pure, Sem.run], RelV.bool _⟩
    · cases h
  · rw [ha.nilP_inv, hb.nilP_inv]
    split at h
    · rename_i ht
      cases h
      exact ⟨.bool true, by simp [guard_ptr, binOp, equal_def, eq_ptr_nil _ ht, eq_nil_nil _ ht, pure, Sem.run], RelV.bool _⟩
    · rename_i ht
      cases h
      exact ⟨.bool false, by simp [guard_ptr, binOp, equal_def, eq_ptr_nil _ ht, eq_nil_nil _ ht, pure, Sem.run], RelV.bool _⟩
    · cases h
  · cases h

theorem sim_un {op : UnOp} {a c : AV} {u : Value} (h : exUn op a = some c) (ha : RelV F w β a u) : ∃ r, (Op.unary op u).run P w = .ok r w ∧ RelV F w β c r := by
  unfold exUn at h
  split at h
  · rw [ha.int_inv]; cases h
    exact ⟨_, by simp only [Op.unary, Op.intArith, pure, Sem.run], RelV.int (toI_wrI _ _)⟩
  · rw [ha.int_inv]; cases h
    exact ⟨_, by simp only [Op.unary]; exact intBits_run P w .xor _ _ _ (by simp), RelV.int (toI_wrI _ _)⟩
  · rw [ha.bool_inv]; cases h
    exact ⟨_, by simp only [Op.unary, pure, Sem.run], RelV.bool _⟩
  · cases h

end
end Go.LM
