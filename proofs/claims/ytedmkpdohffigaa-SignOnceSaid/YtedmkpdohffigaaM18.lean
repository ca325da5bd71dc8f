/- The document's numbers: Times. The document's numbers: Power, Num, Inverse. The document's numbers: half. Strings of 32 bytes as numbers. Nothing of the program. -/
import Derived.Test.YtedmkpdohffigaaM17
import Derived.Test.YtedmkpdohffigaaM08
namespace Go.Proofs.Ytedmkpdohffigaa.Fe
set_option linter.unusedVariables false
open Go Go.RowKit

/-- i rows of the product are in, and k digits of the next. -/
structure Tms (f g : Nat → Nat) (i k : Nat) (y : Nat → Nat) : Prop where
  val : ∃ c, nv y + fp * c = pn f i * nv g + f i * (dw i * pn g k)
  bd : ∀ j, j < 16 → y j ≤ (16 * i + k) * 163208757248
theorem Tms.start (f g : Nat → Nat) : Tms f g 0 0 f0 := ⟨⟨0, by
  have : nv f0 = 0 := by unfold nv; simp [pn, f0]
  rw [this]; simp [pn]⟩, fun j hj => by simp [f0]⟩
theorem nv_add (y : Nat → Nat) (m x : Nat) (h : m < 16) : nv (upd y m (y m + x)) = nv y + dw m * x := by
  have := nv_upd y m (y m + x) h
  rw [Nat.mul_add] at this; omega
theorem dw_add (i k : Nat) : dw (i + k) = dw i * dw k := by unfold dw; rw [Nat.mul_add, Nat.pow_add]
theorem tms_bd {f g y : Nat → Nat} {i k : Nat} (h : ∀ j, j < 16 → y j ≤ (16 * i + k) * 163208757248) (m x : Nat) (hx : x ≤ 163208757248) : ∀ j, j < 16 → upd y m (y m + x) j ≤ (16 * i + (k + 1)) * 163208757248 := by
  intro j hj
  have h1 := h j hj
  rw [show 16 * i + (k + 1) = 16 * i + k + 1 from rfl, Nat.add_mul, Nat.one_mul]
  generalize (16 * i + k) * 163208757248 = B at h1 ⊢
  simp only [upd]
  split
  · rename_i e
    rw [← e]
    exact Nat.add_le_add h1 hx
  · exact Nat.le_trans h1 (Nat.le_add_right _ _)
theorem Tms.low {f g y : Nat → Nat} {i k : Nat} (h : Tms f g i k y) (hf : f i < 65536) (hg : g k < 65536) (hik : i + k < 16) (x : Nat) (hx : x = f i * g k) : Tms f g i (k + 1) (upd y (i + k) (y (i + k) + x)) := by
  have hb : f i * g k ≤ 65535 * 65535 := Nat.mul_le_mul (by omega) (by omega)
  refine ⟨?_, tms_bd (f := f) (g := g) h.bd _ _ (by omega)⟩
  obtain ⟨c, hc⟩ := h.val
  refine ⟨c, ?_⟩
  have e1 : pn g (k + 1) = pn g k + dw k * g k := rfl
  rw [nv_add _ _ _ hik, e1, dw_add]
  have e : f i * (dw i * (pn g k + dw k * g k)) = f i * (dw i * pn g k) + dw i * dw k * (f i * g k) := by
    rw [Nat.mul_add, Nat.mul_add]; congr 1; rw [← Nat.mul_assoc (dw i), Nat.mul_left_comm]
  rw [e, hx]; omega
theorem Tms.high {f g y : Nat → Nat} {i k : Nat} (h : Tms f g i k y) (hf : f i < 65536) (hg : g k < 65536) (m : Nat) (hm : m < 16) (hik : i + k = m + 16) (x : Nat) (hx : x = 38 * f i * g k) : Tms f g i (k + 1) (upd y m (y m + x)) := by
  have hb : f i * g k ≤ 65535 * 65535 := Nat.mul_le_mul (by omega) (by omega)
  have hx' : x = 38 * (f i * g k) := by rw [hx, Nat.mul_assoc]
  refine ⟨?_, tms_bd (f := f) (g := g) h.bd _ _ (by omega)⟩
  obtain ⟨c, hc⟩ := h.val
  refine ⟨c + 2 * (dw m * (f i * g k)), ?_⟩
  have e1 : pn g (k + 1) = pn g k + dw k * g k := rfl
  rw [nv_add _ _ _ hm, e1]
  have e : f i * (dw i * (pn g k + dw k * g k)) = f i * (dw i * pn g k) + dw i * dw k * (f i * g k) := by
    rw [Nat.mul_add, Nat.mul_add]; congr 1; rw [← Nat.mul_assoc (dw i), Nat.mul_left_comm]
  rw [e, ← dw_add, hik, dw_add, dw16, hx']
  generalize f i * g k = p
  generalize dw m = d
  have e0 : d * (2 * fp + 38) * p = 2 * (fp * (d * p)) + 38 * (d * p) := by
    rw [Nat.mul_add, Nat.add_mul]
    congr 1
    · rw [Nat.mul_left_comm d 2, Nat.mul_assoc 2, Nat.mul_comm d fp, Nat.mul_assoc]
    · rw [Nat.mul_comm d 38, Nat.mul_assoc]
  have e2 : fp * (c + 2 * (d * p)) = fp * c + 2 * (fp * (d * p)) := by rw [Nat.mul_add, Nat.mul_left_comm fp 2]
  have e3 : d * (38 * p) = 38 * (d * p) := Nat.mul_left_comm _ _ _
  rw [e0, e2, e3]; omega
theorem Tms.row {f g y : Nat → Nat} {i : Nat} (h : Tms f g i 16 y) : Tms f g (i + 1) 0 y := by
  obtain ⟨c, hc⟩ := h.val
  refine ⟨⟨c, ?_⟩, fun j hj => by have := h.bd j hj; omega⟩
  have e1 : pn f (i + 1) = pn f i + dw i * f i := rfl
  have e2 : pn g 0 = 0 := rfl
  have e3 : pn g 16 = nv g := rfl
  rw [hc, e1, e2, e3, Nat.mul_zero, Nat.mul_zero, Nat.add_zero, Nat.add_mul, ← Nat.mul_assoc (f i), Nat.mul_comm (f i)]
theorem Tms.done {f g y : Nat → Nat} (h : Tms f g 16 0 y) : nv y % fp = nv f * nv g % fp ∧ ∀ j, j < 16 → y j < 1125899906842624 := by
  obtain ⟨c, hc⟩ := h.val
  refine ⟨?_, fun j hj => by have := h.bd j hj; omega⟩
  have e2 : pn g 0 = 0 := rfl
  have e3 : pn f 16 = nv f := rfl
  rw [e2, e3, Nat.mul_zero, Nat.mul_zero, Nat.add_zero] at hc
  rw [← hc, Nat.add_mul_mod_self_left]

end Go.Proofs.Ytedmkpdohffigaa.Fe
namespace Go.Proofs.Ytedmkpdohffigaa.Fe
set_option linter.unusedVariables false
open Go Go.RowKit

/-- The power so far: the bits of n from m on. -/
def pwr (a n m : Nat) : Nat := a ^ (n / 2 ^ m) % fp
theorem pwr_dw (a n m : Nat) : pwr a n m < dw 16 := mod_dw _
theorem pwr_start (a n : Nat) (hn : n < dw 16) : pwr a n 256 = 1 := by
  unfold pwr
  rw [show n / 2 ^ 256 = 0 from Nat.div_eq_of_lt hn, Nat.pow_zero, fp_eq]
theorem pwr_step (a n m : Nat) : pwr a n m = (if n / 2 ^ m % 2 = 1 then pwr a n (m + 1) * pwr a n (m + 1) % fp * a % fp else pwr a n (m + 1) * pwr a n (m + 1) % fp) := by
  unfold pwr
  have e : n / 2 ^ m = 2 * (n / 2 ^ (m + 1)) + n / 2 ^ m % 2 := by rw [Nat.pow_succ, ← Nat.div_div_eq_div_mul]; omega
  have hb2 : n / 2 ^ m % 2 < 2 := Nat.mod_lt _ (by omega)
  generalize hq : n / 2 ^ (m + 1) = q at e
  generalize n / 2 ^ m % 2 = b at e hb2
  rw [e]
  have h2 : a ^ q % fp * (a ^ q % fp) % fp = a ^ (2 * q) % fp := by rw [← Nat.mul_mod, Nat.two_mul, Nat.pow_add]
  rw [h2]
  split
  · rename_i hb; subst hb
    rw [Nat.pow_succ, Nat.mod_mul_mod]
  · rename_i hb
    obtain rfl : b = 0 := by omega
    rfl
theorem bit_at (n i : Nat) : dg n (i / 16) / 2 ^ (i % 16) % 2 = n / 2 ^ i % 2 := by
  rw [dg_eq]
  have e : 2 ^ i = 2 ^ (16 * (i / 16)) * 2 ^ (i % 16) := by rw [← Nat.pow_add, Nat.div_add_mod]
  have e2 : 65536 = 2 ^ (i % 16) * (2 * 2 ^ (15 - i % 16)) := by
    rw [← Nat.pow_succ', ← Nat.pow_add, show i % 16 + (15 - i % 16 + 1) = 16 by omega]
  rw [e, ← Nat.div_div_eq_div_mul, e2, Nat.mod_mul_right_div_self, Nat.mod_mul_right_mod]
theorem i64_and1 (n : Int) : bits .and .i64 n 1 = n % 2 := by
  have h1 : (BitVec.ofInt 64 1).toNat = 1 := by decide
  have key : (BitVec.ofInt 64 n &&& BitVec.ofInt 64 1).toNat = (n % ((2 ^ 64 : Nat) : Int)).toNat % 2 := by
    rw [BitVec.toNat_and, BitVec.toNat_ofInt, h1, Nat.and_one_is_mod]
  show IntKind.i64.wrap ((BitVec.ofInt 64 n &&& BitVec.ofInt 64 1).toNat : Nat) = n % 2
  rw [key, IntKind.wrap_i64]
  omega
theorem nvd {n : Nat} (hn : n < dw 16) : nv (dg n) % fp = n % fp := by rw [nv_dg hn]
theorem dg_small (n j : Nat) (hj : j < 16) : dg n j < 1125899906842624 := Nat.lt_of_lt_of_le (dg_dig n j hj) (by omega)
theorem num_dw (s : ByteArray) (hs : s.size = 32) : Go.Proofs.Ytedmkpdohffigaa.num s < dw 16 := by
  have h := leNat_lt s.data.toList
  rw [show s.data.toList.length = 32 from by rw [← hs]; simp] at h
  exact Nat.lt_of_lt_of_le h (by decide)
theorem two_le_fp : 2 ≤ fp := by rw [fp_eq]; decide
theorem five_le_fp : 5 ≤ fp := by rw [fp_eq]; decide
end Go.Proofs.Ytedmkpdohffigaa.Fe
namespace Go.Proofs.Ytedmkpdohffigaa.Fe
set_option linter.unusedVariables false
open Go Go.RowKit

/-- i digits are halved. -/
def hfF (n i : Nat) : Nat → Nat := fun j => if j < i then dg (n / 2) j else dg n j
theorem hfF_zero (n : Nat) : hfF n 0 = dg n := by funext j; simp [hfF]
theorem hfF_all (n : Nat) : ncell (hfF n 16) = ncell (dg (n / 2)) := ncell_congr fun j hj => by unfold hfF; rw [if_pos hj]
theorem hfF_at (n i : Nat) : hfF n i i = dg n i := by simp [hfF]
theorem hfF_step (n i : Nat) : upd (hfF n i) i (dg (n / 2) i) = hfF n (i + 1) := by
  funext j
  simp only [upd, hfF]
  by_cases h : j = i
  · subst h; rw [if_pos rfl, if_pos (by omega)]
  · rw [if_neg h]
    by_cases h2 : j < i
    · rw [if_pos h2, if_pos (by omega)]
    · rw [if_neg h2, if_neg (by omega)]
theorem half_low (n i : Nat) : dg (n / 2) i = dg n i / 2 + dg n (i + 1) % 2 * 32768 := by
  rw [dg_eq, dg_eq, dg_eq, Nat.mul_add, Nat.pow_add, ← Nat.div_div_eq_div_mul n (2 ^ (16 * i)), Nat.div_div_eq_div_mul n 2, Nat.mul_comm 2, ← Nat.div_div_eq_div_mul n (2 ^ (16 * i)) 2]
  generalize n / 2 ^ (16 * i) = q
  omega
theorem half_top (n : Nat) (hn : n < dw 16) : dg (n / 2) 15 = dg n 15 / 2 := by
  rw [dg_eq, dg_eq, Nat.div_div_eq_div_mul n 2, Nat.mul_comm 2, ← Nat.div_div_eq_div_mul n (2 ^ (16 * 15)) 2]
  have : n / 2 ^ (16 * 15) < 65536 := Nat.div_lt_of_lt_mul hn
  generalize n / 2 ^ (16 * 15) = q at this
  omega
end Go.Proofs.Ytedmkpdohffigaa.Fe
namespace Go.Proofs.Ytedmkpdohffigaa.Fe
set_option linter.unusedVariables false
open Go Go.RowKit

theorem num_sbytes (n : Nat) : num (sbytes n) = n % 256 ^ 32 := leNat_leList 32 n
theorem sbytes_size (n : Nat) : (sbytes n).size = 32 := leList_length 32 n
theorem bytes_ext {a b : ByteArray} (h : a.data.toList = b.data.toList) : a = b := by
  cases a; cases b; simpa using Array.toList_inj.1 h
theorem bytes_inj {a b : ByteArray} (hs : a.size = b.size) (h : num a = num b) : a = b :=
  bytes_ext (leNat_inj _ _ (by simpa using hs) h)
theorem num_lt32 {s : ByteArray} (h : s.size = 32) : num s < 256 ^ 32 := by
  have := leNat_lt s.data.toList
  rwa [show s.data.toList.length = 32 from by rw [← h]; simp] at this
theorem sbytes_num {s : ByteArray} (h : s.size = 32) : sbytes (num s) = s :=
  bytes_inj (by rw [sbytes_size, h]) (by rw [num_sbytes]; exact Nat.mod_eq_of_lt (num_lt32 h))
theorem sbytes_inj {x y : Nat} (hx : x < 256 ^ 32) (hy : y < 256 ^ 32) (h : sbytes x = sbytes y) : x = y := by
  have e := congrArg num h
  rwa [num_sbytes, num_sbytes, Nat.mod_eq_of_lt hx, Nat.mod_eq_of_lt hy] at e
theorem beq_toList (a b : ByteArray) : (a.toList == b.toList) = decide (a = b) := by
  rw [ByteArray.toList_eq, ByteArray.toList_eq, Bool.eq_iff_iff, beq_iff_eq, decide_eq_true_iff]
  exact ⟨bytes_ext, fun h => by rw [h]⟩
theorem seq_yes (s : ByteArray) : (s.toList == s.toList) = true := by simp
theorem seq_no {s t : ByteArray} (h : s ≠ t) : (s.toList == t.toList) = false := by rw [beq_toList, decide_eq_false h]
end Go.Proofs.Ytedmkpdohffigaa.Fe
