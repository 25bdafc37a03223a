/- LM: the pure operations. -/
import Derived.Test.YtipoadjhenjpiaaLmR2
set_option linter.unusedVariables false
namespace Go.LM

theorem toI_wrI (k : IntKind) (n : Int) : toI k (wrI k n) = k.wrap n := by
  cases k <;> simp only [toI, wrI]
  · rw [UInt8.toNat_ofNat']
    simp [IntKind.wrap, IntKind.bits, IntKind.signed]; omega

theorem toI_ofI (k : IntKind) (n : Int) (h : k = .u8 → 0 ≤ n ∧ n < 256) : toI k (ofI k n) = n := by
  cases k <;> simp only [toI, ofI]
  have := h rfl
  rw [UInt8.toNat_ofNat']
  omega

theorem toI_u8 (x : (Ty.int .u8).D) : 0 ≤ toI .u8 x ∧ toI .u8 x < 256 := by
  have := UInt8.toNat_lt x
  simp only [toI]; constructor <;> omega

section
variable {F : Nat → Prop} {w : World} {β : Nat → Option Conc}

theorem RelV.int {k : IntKind} {x : (Ty.int k).D} {n : Int} (h : toI k x = n) : RelV F w β (.dat (.int k) x) (.int k n) :=
  .one _ _ rfl (.dat _ _ _ (by simp only [rep]; rw [h]))
theorem RelV.bool (b : Bool) : RelV F w β (.dat .bool b) (.bool b) := .one _ _ rfl (.dat _ _ _ (by simp only [rep]))
theorem RelV.str (s : List UInt8) : RelV F w β (.dat .str s) (.string ⟨s.toArray⟩) := .one _ _ rfl (.dat _ _ _ (by simp only [rep]))

theorem RelV.int_inv {k : IntKind} {x : (Ty.int k).D} {v : Value} (h : RelV F w β (.dat (.int k) x) v) : v = .int k (toI k x) := by
  cases h with
  | one _ _ _ h => cases h with | dat _ _ _ h => simp only [rep] at h; injection h
  | many _ _ h => simp [isMany] at h
theorem RelV.bool_inv {x : Bool} {v : Value} (h : RelV F w β (.dat .bool x) v) : v = .bool x := by
  cases h with
  | one _ _ _ h => cases h with | dat _ _ _ h => simp only [rep] at h; injection h
  | many _ _ h => simp [isMany] at h
theorem RelV.str_inv {x : List UInt8} {v : Value} (h : RelV F w β (.dat .str x) v) : v = .string ⟨x.toArray⟩ := by
  cases h with
  | one _ _ _ h => cases h with | dat _ _ _ h => simp only [rep] at h; injection h
  | many _ _ h => simp [isMany] at h
theorem RelV.nilP_inv {v : Value} (h : RelV F w β .nilP v) : v = .pointer none := by
  cases h with
  | one _ _ _ h => cases h; rfl
  | many _ _ h => simp [isMany] at h
theorem RelV.nilS_inv {v : Value} (h : RelV F w β .nilS v) : v = .slice none 0 0 := by
  cases h with
  | one _ _ _ h => cases h; rfl
  | many _ _ h => simp [isMany] at h
theorem RelV.ptr_inv {id p} {v : Value} (h : RelV F w β (.ptr id p) v) : ∃ c b o, v = .pointer (some ⟨b, o, none⟩) ∧ β id = some c ∧ c.b = some b ∧ placeOf c.sh p = some o := by
  cases h with
  | one _ _ _ h => cases h with | ptr _ _ c b o h1 h2 h3 => exact ⟨c, b, o, rfl, h1, h2, h3⟩
  | many _ _ h => simp [isMany] at h
theorem RelV.fptr_inv {t x} {v : Value} (h : RelV F w β (.fptr t x) v) : ∃ b o us, v = .pointer (some ⟨b, o, none⟩) ∧ F b ∧ At w b o t.sz us ∧ rep F w t x us := by
  cases h with
  | one _ _ _ h => cases h with | fptr _ _ b o us h1 h2 h3 => exact ⟨b, o, us, rfl, h1, h2, h3⟩
  | many _ _ h => simp [isMany] at h
theorem RelV.full_inv {id} {v : Value} (h : RelV F w β (.full id) v) : ∃ c t len, v = .slice (c.b.map fun b => ⟨b, 0, none⟩) len c.cap ∧ β id = some c ∧ c.sh = .row t len ∧ len ≤ c.cap := by
  cases h with
  | one _ _ _ h => cases h with | full _ c t len h1 h2 h3 => exact ⟨c, t, len, rfl, h1, h2, h3⟩
  | many _ _ h => simp [isMany] at h
theorem RelV.sub_inv {id off lo hi} {v : Value} (h : RelV F w β (.sub id off lo hi) v) : ∃ c n t A cap, v = .slice A (hi - lo).toNat cap ∧ β id = some c ∧ arrSh c.sh off = some (n, t) ∧
    0 ≤ lo ∧ lo ≤ hi ∧ hi ≤ n ∧ (hi - lo).toNat ≤ cap ∧ (lo = hi ∨ ∃ b, c.b = some b ∧ A = some ⟨b, off + lo.toNat * t.sz, none⟩) := by
  cases h with
  | one _ _ _ h => cases h with | sub _ _ _ _ c n t A cap h1 h3 h4 h5 h6 h7 h8 => exact ⟨c, n, t, A, cap, rfl, h1, h3, h4, h5, h6, h7, h8⟩
  | many _ _ h => simp [isMany] at h
theorem RelV.fn_inv {f caps} {v : Value} (h : RelV F w β (.fn f caps) v) : ∃ vs, v = .func (.func f) #[] vs.toArray ∧ RelVs F w β caps vs := by
  cases h with
  | one _ _ _ h => cases h with | fn _ _ vs h => exact ⟨vs, rfl, h⟩
  | many _ _ h => simp [isMany] at h
theorem RelV.agg_inv {xs} {v : Value} (h : RelV F w β (.agg xs) v) : ∃ vs, v = .agg vs.toArray ∧ RelCs F w β xs vs := by
  cases h with
  | one _ _ h => simp [isMany] at h
  | many _ cs _ h => cases h with | agg _ _ h => exact ⟨cs, rfl, h⟩
theorem RelV.tup_inv {xs} {v : Value} (h : RelV F w β (.tup xs) v) : ∃ vs, v = .tuple vs.toArray ∧ RelVs F w β xs vs := by
  cases h with
  | one _ _ _ h => cases h
  | many _ _ h => simp [isMany] at h
  | tup _ vs h => exact ⟨vs, rfl, h⟩
/-- A datum of a kind with several cells. -/
theorem RelV.dat_inv {t x} {v : Value} (h : RelV F w β (.dat t x) v) : (isMany (.dat t x) = false ∧ rep F w t x [v]) ∨ (isMany (.dat t x) = true ∧ ∃ cs, v = .agg cs.toArray ∧ rep F w t x cs) := by
  cases h with
  | one _ _ h1 h => cases h with | dat _ _ _ h => exact .inl ⟨h1, h⟩
  | many _ cs h1 h => cases h with | dat _ _ _ h => exact .inr ⟨h1, cs, rfl, h⟩
theorem RelV.ofDat {t x} {cs : List Value} {v : Value} (h : rep F w t x cs) (h1 : isMany (.dat t x) = true → v = .agg cs.toArray) (h2 : isMany (.dat t x) = false → cs = [v]) : RelV F w β (.dat t x) v := by
  cases e : isMany (.dat t x)
  · have := h2 e; subst this; exact .one _ _ e (.dat _ _ _ h)
  · rw [h1 e]; exact .many _ _ e (.dat _ _ _ h)
end

/-! ### arithmetic -/
theorem fdiv_pow (x : Int) (n : Nat) : x.fdiv (2 ^ n) = x / ((2 ^ n : Nat) : Int) := by
  rw [Int.fdiv_eq_ediv_of_nonneg _ (Int.pow_nonneg (by decide))]; simp

theorem intBits_run (P : Program) (w : World) (op : BinOp) (k : IntKind) (x y : Int) (h : op = .and ∨ op = .or ∨ op = .xor ∨ op = .andNot) :
    (Op.intBits op k x y).run P w = .ok (.int k (k.wrap (bitsI op k x y))) w := by
  rcases h with rfl | rfl | rfl | rfl <;> simp [Op.intBits, bitsI, pure]

theorem tmod_u8 (x y : Int) (h : 0 ≤ x ∧ x < 256) : 0 ≤ x.tmod y ∧ x.tmod y < 256 := by
  have h1 := Int.tmod_nonneg y h.1
  have h2 : (x.tmod y).natAbs ≤ x.natAbs := by rw [Int.natAbs_tmod]; exact Nat.mod_le _ _
  omega

end Go.LM
