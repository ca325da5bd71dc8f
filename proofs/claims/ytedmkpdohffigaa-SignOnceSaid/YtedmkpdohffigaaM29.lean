/- Plain laws of numbers in base 256 (the same as of words of 64 bits). The document's answer on scalars: Add, Mul. Arguments that are structs: read field by field; what came in reads behind the call as before it. -/
import Derived.Test.YtedmkpdohffigaaM28
import Derived.Test.YtedmkpdohffigaaM09
import Derived.Test.YtedmkpdohffigaaM01
import Derived.Deep.Slices
import Derived.Deep.Fields
import Derived.ChangeSame
import Derived.ProofKit
import Derived.OpenShut
import Derived.ShutString
import Derived.ChangeOld
import Derived.Carry
namespace Go.Proofs.Ytedmkpdohffigaa
set_option linter.unusedVariables false
open Go Go.RowKit

@[irreducible] def dig8 (n i : Nat) : Int := ((n / 2 ^ (8 * i) % 256 : Nat) : Int)
theorem pow8 (i : Nat) : (2 : Nat) ^ (8 * i) = 256 ^ i := by rw [Nat.pow_mul]
theorem dig8_eq (n i : Nat) : digit n i = dig8 n i := by unfold digit dig8; rw [pow8]

/-- A number with its word j set to v. -/
def put8 (O j v : Nat) : Nat := O - O / 2 ^ (8 * j) % 256 * 2 ^ (8 * j) + v * 2 ^ (8 * j)

theorem digit_split (lo j v hi i : Nat) (hlo : lo < 2 ^ (8 * j)) (hv : v < 256) :
    dig8 (lo + 2 ^ (8 * j) * (v + 256 * hi)) i = if i < j then dig8 lo i else if i = j then (v : Int) else dig8 hi (i - j - 1) := by
  unfold dig8
  split
  · rename_i h
    obtain ⟨d, hd⟩ : ∃ d, 8 * j = 8 * i + (8 + d) := ⟨8 * (j - i - 1), by omega⟩
    congr 1
    rw [hd, Nat.pow_add, Nat.pow_add]
    rw [show lo + 2 ^ (8 * i) * (2 ^ 8 * 2 ^ d) * (v + 256 * hi) = lo + 2 ^ (8 * i) * (2 ^ 8 * (2 ^ d * (v + 256 * hi))) from by simp only [Nat.mul_assoc]]
    rw [Nat.add_mul_div_left _ _ (Nat.two_pow_pos _)]
    omega
  · split
    · rename_i h; subst h
      rw [Nat.add_mul_div_left _ _ (Nat.two_pow_pos _), Nat.div_eq_of_lt hlo]
      omega
    · rename_i h1 h2
      congr 1
      obtain ⟨d, hd⟩ : ∃ d, i = j + 1 + d := ⟨i - j - 1, by omega⟩
      subst hd
      rw [show j + 1 + d - j - 1 = d from by omega, show 8 * (j + 1 + d) = 8 * j + (8 + 8 * d) from by omega, Nat.pow_add, ← Nat.div_div_eq_div_mul, Nat.add_mul_div_left _ _ (Nat.two_pow_pos _), Nat.div_eq_of_lt hlo, Nat.pow_add, ← Nat.div_div_eq_div_mul]
      congr 2; omega

theorem split8_at (O j : Nat) : O = O % 2 ^ (8 * j) + 2 ^ (8 * j) * (O / 2 ^ (8 * j) % 256 + 256 * (O / 2 ^ (8 * j) / 256)) := by
  have h1 := Nat.div_add_mod O (2 ^ (8 * j))
  have h2 := Nat.div_add_mod (O / 2 ^ (8 * j)) 256
  rw [Nat.add_comm (_ % 256), h2]; omega
theorem put8_eq (O j v : Nat) : put8 O j v = O % 2 ^ (8 * j) + 2 ^ (8 * j) * (v + 256 * (O / 2 ^ (8 * j) / 256)) := by
  have h := split8_at O j
  unfold put8
  generalize O % 2 ^ (8 * j) = lo at h ⊢
  generalize hm : O / 2 ^ (8 * j) % 256 = mid at h ⊢
  generalize O / 2 ^ (8 * j) / 256 = hi at h ⊢
  rw [Nat.mul_add] at h ⊢
  rw [Nat.mul_comm mid, Nat.mul_comm v]; omega

/-- The sum of a number with word j set, by its old word. -/
theorem put8_add (O j v : Nat) : put8 O j v + O / 2 ^ (8 * j) % 256 * 2 ^ (8 * j) = O + v * 2 ^ (8 * j) := by
  have h := split8_at O j
  rw [put8_eq]
  generalize O % 2 ^ (8 * j) = lo at h ⊢
  generalize O / 2 ^ (8 * j) / 256 = hi at h ⊢
  generalize O / 2 ^ (8 * j) % 256 = mid at h ⊢
  rw [Nat.mul_add] at h ⊢
  rw [Nat.mul_comm v, Nat.mul_comm mid]; omega

theorem put8_lt (O j v m : Nat) (hO : O < 2 ^ (8 * m)) (hj : j < m) (hv : v < 256) : put8 O j v < 2 ^ (8 * m) := by
  obtain ⟨d, rfl⟩ : ∃ d, m = j + 1 + d := ⟨m - j - 1, by omega⟩
  have hlo : O % 2 ^ (8 * j) < 2 ^ (8 * j) := Nat.mod_lt _ (Nat.two_pow_pos _)
  have e : 2 ^ (8 * (j + 1 + d)) = 2 ^ (8 * j) * (256 * 2 ^ (8 * d)) := by
    rw [show 8 * (j + 1 + d) = 8 * j + (8 + 8 * d) from by omega, Nat.pow_add, Nat.pow_add]
  rw [put8_eq]
  rw [e] at hO ⊢
  have hh : O / 2 ^ (8 * j) / 256 < 2 ^ (8 * d) := by
    rw [Nat.div_div_eq_div_mul]
    exact (Nat.div_lt_iff_lt_mul (by have := Nat.two_pow_pos (8 * j); omega)).2 (by rw [Nat.mul_comm, Nat.mul_assoc]; exact hO)
  generalize O / 2 ^ (8 * j) / 256 = hi at hh ⊢
  generalize O % 2 ^ (8 * j) = lo at hlo ⊢
  have h1 : v + 256 * hi + 1 ≤ 256 * 2 ^ (8 * d) := by omega
  have h2 := Nat.mul_le_mul_left (2 ^ (8 * j)) h1
  rw [Nat.mul_add] at h2
  omega

theorem byte_mod (Y k : Nat) : Y % 2 ^ (8 * (k + 1)) = Y % 2 ^ (8 * k) + 2 ^ (8 * k) * (Y / 2 ^ (8 * k) % 256) := by
  rw [show 8 * (k + 1) = 8 * k + 8 from by omega, Nat.pow_add, Nat.mod_mul]

/-- One inner round. -/
theorem mul8_inner {O A x Y i k z z' v : Nat} (hO : O + z * 2 ^ (8 * (i + k)) = A + x * (Y % 2 ^ (8 * k)) * 2 ^ (8 * i))
    (he : z' * 256 + v = x * (Y / 2 ^ (8 * k) % 256) + z + O / 2 ^ (8 * (i + k)) % 256) :
    put8 O (i + k) v + z' * 2 ^ (8 * (i + (k + 1))) = A + x * (Y % 2 ^ (8 * (k + 1))) * 2 ^ (8 * i) := by
  have h := put8_add O (i + k) v
  rw [byte_mod, show 8 * (i + (k + 1)) = 8 * (i + k) + 8 from by omega, Nat.pow_add _ _ 8]
  have eK : 2 ^ (8 * (i + k)) = 2 ^ (8 * k) * 2 ^ (8 * i) := by rw [← Nat.pow_add]; congr 1; omega
  generalize O / 2 ^ (8 * (i + k)) % 256 = o at h he
  generalize Y / 2 ^ (8 * k) % 256 = y at he ⊢
  generalize put8 O (i + k) v = O' at h ⊢
  rw [eK] at h hO ⊢
  generalize Y % 2 ^ (8 * k) = t at hO ⊢
  generalize 2 ^ (8 * k) = K at h hO ⊢
  generalize 2 ^ (8 * i) = J at h hO ⊢
  have h3 : (z' * 256 + v) * (K * J) = (x * y + z + o) * (K * J) := by rw [he]
  simp only [Nat.add_mul] at h3
  have e1 : x * (t + K * y) * J = x * t * J + x * y * (K * J) := by
    rw [Nat.mul_add, Nat.add_mul, Nat.mul_left_comm x K y]; simp only [Nat.mul_left_comm, Nat.mul_comm]
  have e2 : z' * (K * J * 2 ^ 8) = z' * 256 * (K * J) := by
    rw [Nat.mul_comm (K * J), ← Nat.mul_assoc]
  rw [e1, e2]
  clear e1 e2 he
  generalize K * J = M at h h3 hO ⊢
  generalize x * t * J = q1 at h h3 hO ⊢
  generalize x * y * M = q2 at h h3 hO ⊢
  generalize z' * 256 * M = q3 at h h3 hO ⊢
  generalize z * M = q4 at h h3 hO ⊢
  generalize o * M = q5 at h h3 hO ⊢
  generalize v * M = q6 at h h3 hO ⊢
  omega

/-- The end of an outer round. -/
theorem mul8_outer {O X Y i z : Nat} (hY : Y < 2 ^ 256) (hlt : O < 2 ^ (8 * (i + 32)))
    (hO : O + z * 2 ^ (8 * (i + 32)) = X % 2 ^ (8 * i) * Y + X / 2 ^ (8 * i) % 256 * (Y % 2 ^ (8 * 32)) * 2 ^ (8 * i)) :
    put8 O (i + 32) z = X % 2 ^ (8 * (i + 1)) * Y := by
  have h := put8_add O (i + 32) z
  rw [Nat.div_eq_of_lt hlt] at h
  rw [Nat.mod_eq_of_lt (a := Y) hY] at hO
  rw [byte_mod, Nat.add_mul]
  have e : 2 ^ (8 * i) * (X / 2 ^ (8 * i) % 256) * Y = X / 2 ^ (8 * i) % 256 * Y * 2 ^ (8 * i) := by
    simp only [Nat.mul_left_comm, Nat.mul_comm]
  rw [e]; omega
theorem mul8_lt {X Y i : Nat} (hY : Y < 2 ^ 256) : X % 2 ^ (8 * i) * Y < 2 ^ (8 * (i + 32)) := by
  rw [show 8 * (i + 32) = 8 * i + 256 from by omega, Nat.pow_add]
  exact Nat.mul_lt_mul'' (Nat.mod_lt _ (Nat.two_pow_pos _)) hY

theorem dcells_put (O c j v : Nat) (hv : v < 256) : (dcells O c).setIfInBounds j (.int .i64 (v : Int)) = dcells (put8 O j v) c := by
  apply Array.ext
  · simp [dcells]
  · intro i h1 h2
    rw [Array.getElem_setIfInBounds (by simpa using h1)]
    simp only [dcells, List.getElem_toArray, List.getElem_map, List.getElem_range, dig8_eq]
    have hlo : O % 2 ^ (8 * j) < 2 ^ (8 * j) := Nat.mod_lt _ (Nat.two_pow_pos _)
    rw [put8_eq, digit_split _ _ _ _ _ hlo hv]
    split
    · rename_i h; subst h; simp
    · rename_i h
      have := digit_split _ j (O / 2 ^ (8 * j) % 256) (O / 2 ^ (8 * j) / 256) i hlo (Nat.mod_lt _ (by omega))
      rw [← split8_at O j] at this
      rw [this, if_neg (by omega : ¬ i = j), if_neg (by omega : ¬ i = j)]
end Go.Proofs.Ytedmkpdohffigaa
namespace Go.Proofs.Ytedmkpdohffigaa
set_option linter.unusedVariables false
open Go Go.RowKit

theorem num_mod (s : ByteArray) (k : Nat) (hk : k ≤ s.size) : num s % 256 ^ k = leNat (s.data.toList.take k) := by
  have h : num s = leNat (s.data.toList.take k) + 256 ^ k * leNat (s.data.toList.drop k) := by
    have := leNat_append (s.data.toList.take k) (s.data.toList.drop k)
    rw [List.take_append_drop, List.length_take, Nat.min_eq_left (by simpa using hk)] at this
    exact this
  rw [h, Nat.add_mul_mod_self_left, Nat.mod_eq_of_lt (leNat_take_lt s k hk)]
theorem num_digit (s : ByteArray) (k : Nat) (hk : k < s.size) : num s / 2 ^ (8 * k) % 256 = s[k].toNat := by
  have h := byte_mod (num s) k
  rw [pow8, pow8, num_mod s (k + 1) hk, num_mod s k (Nat.le_of_lt hk), leNat_take_succ s k hk] at h
  rw [pow8]
  exact (Nat.eq_of_mul_eq_mul_left (Nat.pow_pos (by omega)) (by omega : 256 ^ k * s[k].toNat = 256 ^ k * (num s / 256 ^ k % 256))).symm

theorem add8 (S k y a b : Nat) (hS : S < 2 ^ (8 * (k + 1))) (hy : y = S / 2 ^ (8 * k) % 256 + a + b) :
    put8 (put8 S k (y % 256)) (k + 1) (y / 256) = S + 2 ^ (8 * k) * (a + b) := by
  have h1 := put8_add S k (y % 256)
  have h2 := put8_add (put8 S k (y % 256)) (k + 1) (y / 256)
  have h3 := put8_lt S k (y % 256) (k + 1) hS (by omega) (by omega)
  rw [Nat.div_eq_of_lt h3] at h2
  have e : y / 256 * 2 ^ (8 * (k + 1)) = y / 256 * 256 * 2 ^ (8 * k) := by
    rw [show 8 * (k + 1) = 8 + 8 * k from by omega, Nat.pow_add, Nat.mul_assoc]
  rw [e] at h2
  generalize put8 (put8 S k (y % 256)) (k + 1) (y / 256) = R at h2 ⊢
  generalize put8 S k (y % 256) = T at h1 h2
  generalize S / 2 ^ (8 * k) % 256 = d at h1 hy
  generalize 2 ^ (8 * k) = K at h1 h2 ⊢
  have h4 : (y % 256 + y / 256 * 256) * K = (d + a + b) * K := by congr 1; omega
  simp only [Nat.add_mul] at h4
  rw [Nat.mul_add, Nat.mul_comm K a, Nat.mul_comm K b]
  omega

structure RaSt (w : World) (a b : ByteArray) (k : Nat) (wr : World) : Prop where
  row : wr.heap[w.heap.size]? = some (.cells (dcells (num a % 256 ^ k + num b % 256 ^ k) 33) 3 (0, 0))
  below : Below w.heap.size w wr

theorem RaSt.step {w wr : World} {a b : ByteArray} {k : Nat} {n : Nat} (h : RaSt w a b k wr) (ha : k < a.size) (hb : k < b.size) (y : Int)
    (hy : y = digit (num a % 256 ^ k + num b % 256 ^ k) k + a[k].toNat + b[k].toNat) :
    RaSt w a b (k + 1) (((wr.drewN n).setCell ⟨w.heap.size, k, none⟩ (.int .i64 (y % 256))).setCell ⟨w.heap.size, k + 1, none⟩ (.int .i64 (y / 256))) := by
  have hd := digit_bd (num a % 256 ^ k + num b % 256 ^ k) k
  obtain ⟨y, rfl⟩ := Int.eq_ofNat_of_zero_le (by omega : 0 ≤ y)
  have hu := a[k].toNat_lt; have hv := b[k].toNat_lt
  refine ⟨?_, ((below_drewN h.below n).setCell (Nat.le_refl _) _).setCell (Nat.le_refl _) _⟩
  have hrow : (wr.drewN n).heap[w.heap.size]? = some (.cells (dcells (num a % 256 ^ k + num b % 256 ^ k) 33) 3 (0, 0)) := h.row
  rw [show ((y : Int) % 256) = ((y % 256 : Nat) : Int) from by omega, show ((y : Int) / 256) = ((y / 256 : Nat) : Int) from by omega]
  have h1 := heap_setCell_same _ _ k _ _ (.int .i64 ((y % 256 : Nat) : Int)) hrow
  rw [dcells_put _ _ _ _ (by omega)] at h1
  have h2 := heap_setCell_same _ _ (k + 1) _ _ (.int .i64 ((y / 256 : Nat) : Int)) h1
  rw [dcells_put _ _ _ _ (by omega)] at h2
  rw [h2]
  have hlt : num a % 256 ^ k + num b % 256 ^ k < 2 ^ (8 * (k + 1)) := by
    rw [pow8, Nat.pow_succ]
    have := Nat.mod_lt (num a) (Nat.pow_pos (n := k) (by omega : 0 < 256)); have := Nat.mod_lt (num b) (Nat.pow_pos (n := k) (by omega : 0 < 256)); omega
  rw [add8 _ k y a[k].toNat b[k].toNat hlt (by rw [dig8_eq] at hy; unfold dig8 at hy; omega)]
  congr 2
  rw [← num_digit a k ha, ← num_digit b k hb, pow8]
  rw [digit_mod, digit_mod, Nat.mul_add]
  congr 1; omega

set_option maxRecDepth 100000 in
set_option maxHeartbeats 1000000 in
theorem refAdd_any (a b : ByteArray) (w : World) :
    Calls Try.prog 12 #[.string a, .string b] w fun e w' => e = .returned (if a.size = 32 ∧ b.size = 32 then .tuple #[.string (sc (num a + num b)), .int .i64 0] else .tuple #[.string ⟨#[]⟩, .int .i64 50]) ∧ Below w.heap.size w w' := by
  by_cases ha : a.size = 32
  · by_cases hb : b.size = 32
    · rw [if_pos ⟨ha, hb⟩]
      have ha' : ((a.size : Int) != 32) = false := by simp; omega
      have hb' : ((b.size : Int) != 32) = false := by simp; omega
      have HA := Box.mk ha; clear ha
      have HB := Box.mk hb; clear hb
      have hmk : ∀ w, (Instr.makeSlice 35 (.int .i64 33) (.int .i64 33)).run Try.prog w = .ok (.slice (some ⟨w.heap.size, 0, none⟩) 33 33) (w.alloc (.cells (dcells 0 33) 3)) := fun _ => by kernel_rfl
      have hst : RaSt w a b 0 (w.alloc (.cells (dcells 0 33) 3)) := ⟨by rw [heap_alloc_new]; simp [Nat.mod_one], (Below.refl _ _).alloc (Nat.le_refl _) _⟩
      have HS := Box.mk hst; clear hst
      go_enter Try.func12, Try.ntmps12
      go_wp2
      go_loopw [7] (fun i wr => ∃ k : Nat, k ≤ 32 ∧ i = .int .i64 k ∧ RaSt w a b k wr) (fun i _ => 32 - (intOf i).toNat)
      case atStart => exact ⟨0, by omega, rfl, HS.out⟩
      case round =>
        clear HS
        obtain ⟨k, hk, rfl, hs⟩ := hrel
        have HS := Box.mk hs; clear hs
        by_cases hlt : k < 32
        · have hka : k < a.size := by have := HA.out; omega
          have hkb : k < b.size := by have := HB.out; omega
          have c1 : wr.cell? ⟨w.heap.size, k, none⟩ = some (.int .i64 (digit (num a % 256 ^ k + num b % 256 ^ k) k)) := by rw [cell_of_row _ _ _ _ _ _ HS.out.row]; exact dcells_get _ _ _ (by omega)
          have c2 : wr.cell? ⟨w.heap.size, k + 1, none⟩ = some (.int .i64 (digit (num a % 256 ^ k + num b % 256 ^ k) (k + 1))) := by rw [cell_of_row _ _ _ _ _ _ HS.out.row]; exact dcells_get _ _ _ (by omega)
          have f1 : wr.frozen? ⟨w.heap.size, k, none⟩ = false := frozen_of_row _ _ _ _ _ HS.out.row
          have f2 : wr.frozen? ⟨w.heap.size, k + 1, none⟩ = false := frozen_of_row _ _ _ _ _ HS.out.row
          have hd := digit_bd (num a % 256 ^ k + num b % 256 ^ k) k
          have hu := a[k].toNat_lt; have hv := b[k].toNat_lt
          have hkI : (k : Int) < (a.size : Int) := by omega
          have hkI2 : (k : Int) < (b.size : Int) := by omega
          have HST := Box.mk (fun n y hy => HS.out.step (n := n) hka hkb y hy)
          generalize digit (num a % 256 ^ k + num b % 256 ^ k) k = d at c1 hd HST
          generalize digit (num a % 256 ^ k + num b % 256 ^ k) (k + 1) = d2 at c2
          clear HS
          go_wp2_with fail
          go_quiet (fail)
          go_wp2
          go_roundw
          case rel => exact ⟨k + 1, by omega, by go_num, HST.out _ _ rfl⟩
          case measure => simp [intOf]; omega
        · have hk2 : k = 32 := by omega
          subst hk2
          have hX := num_lt a 4 (by have := HA.out; omega)
          have hY := num_lt b 4 (by have := HB.out; omega)
          have hrow := HS.out.row
          rw [Nat.mod_eq_of_lt (by omega), Nat.mod_eq_of_lt (by omega)] at hrow
          have hdr := Box.mk (DRow.of hrow)
          have hbl := (Array.getElem?_eq_some_iff.1 hrow).1
          have hN : Box (In256 (num a + num b) 33) := ⟨by unfold In256; omega⟩
          have HBL := Box.mk HS.out.below
          clear hX hY hrow HS
          go_wp2_with fail
          refine (refMod_any (num a + num b) 33 w.heap.size 33 _ hN.out (by omega) hdr.out hbl).mono ?_
          rintro e w2 ⟨rfl, hb2⟩
          go_wp2
          go_ret2
          exact ⟨rfl, HBL.out.trans (hb2.mono HBL.out.size)⟩
    · rw [if_neg (fun h => hb h.2)]
      have ha' : ((a.size : Int) != 32) = false := by simp; omega
      have hb' : ((b.size : Int) != 32) = true := by simp; omega
      have HA := Box.mk ha; clear ha
      have HB := Box.mk hb; clear hb
      go_enter Try.func12, Try.ntmps12
      go_wp2
      go_ret2
      exact ⟨rfl, Below.refl _ _⟩
  · rw [if_neg (fun h => ha h.1)]
    have ha' : ((a.size : Int) != 32) = true := by simp; omega
    have HA := Box.mk ha; clear ha
    go_enter Try.func12, Try.ntmps12
    go_wp2
    go_ret2
    exact ⟨rfl, Below.refl _ _⟩
end Go.Proofs.Ytedmkpdohffigaa
namespace Go.Proofs.Ytedmkpdohffigaa
open Go Go.RowKit Go.ChangeShapes Go.WideShapes Go.Deep
set_option linter.unusedVariables false
section
variable {H : Type} {enc : TypeId × Value → H} {P : Program} {w : World} {base : Nat} {spare : Nat → Bool} {held : Bool}

/-- A field's cell has a reading at its type. -/
def Reads (enc : TypeId × Value → H) (P : Program) (w : World) (base : Nat) (spare : Nat → Bool) (held : Bool) (t : TypeId) (v : Value) : Prop :=
  ∃ y n, DataW.trod enc P w base spare held n t [v] = some y

theorem read_fields {t : TypeId} {fs : Array Field} {fuel : Nat} {cs : List Value} {x : DataW H × List MemPlace} (hs : P.underlying t = some (.struct fs)) (hone : oneCellFields P fs = true) (hC : P.cellsOf t = fs.size)
    (h : DataW.trod enc P w base spare held fuel t cs = some x) :
    cs.length = fs.size ∧ ∀ (j : Nat) (f : Field), fs[j]? = some f → ∃ v, cs[j]? = some v ∧ Reads enc P w base spare held f.type v := by
  obtain ⟨ys, n, _, _, hlen, hyl, hf⟩ := DataW.trod_struct hs h
  rw [hC] at hlen
  refine ⟨hlen, fun j f hj => ?_⟩
  obtain ⟨ho, hk⟩ := hone_of hone j f hj
  have hjl : j < fs.size := (Array.getElem?_eq_some_iff.1 hj).1
  have h1 := hf j f hj
  rw [ho, hk] at h1
  have e1 : (cs.drop j).take 1 = [cs[j]'(by omega)] := by
    rw [List.drop_eq_getElem_cons (by omega)]; rfl
  rw [e1] at h1
  exact ⟨cs[j]'(by omega), List.getElem?_eq_getElem (by omega), _, _, h1.trans (List.getElem?_eq_getElem (by omega : j < ys.length))⟩

theorem read_struct {r : Reach} {b0 : Nat} {t : TypeId} {fs : Array Field} {v : Value} {d : DataW H} {p : List MemPlace} (hs : P.underlying t = some (.struct fs)) (hone : oneCellFields P fs = true) (hC : P.cellsOf t = fs.size)
    (hv : Value.okWide P w r b0 t v) (h : DataW.Trod enc P w base spare held t v d p) :
    ∃ cs : Array Value, v = .agg cs ∧ cs.size = fs.size ∧ ∀ (j : Nat) (f : Field), fs[j]? = some f → ∃ c, cs[j]? = some c ∧ Reads enc P w base spare held f.type c := by
  obtain ⟨cs, rfl, hsz⟩ := okWide_struct hs hv
  obtain ⟨fuel, hf⟩ := h
  obtain ⟨hl, hr⟩ := read_fields hs hone hC hf
  refine ⟨cs, rfl, hsz.trans hC, fun j f hj => ?_⟩
  obtain ⟨c, hc, hy⟩ := hr j f hj
  exact ⟨c, by simpa [Value.cells] using hc, hy⟩

theorem Reads.int {t : TypeId} {k : IntKind} {v : Value} (ht : P.underlying t = some (.int k)) (h : Reads enc P w base spare held t v) : ∃ n, v = .int k n ∧ (Lit.int k n).wf = true := by
  obtain ⟨y, n, h⟩ := h
  obtain ⟨m, hm, _, hw⟩ := DataW.trod_int ht h
  simp at hm
  exact ⟨m, hm, hw⟩
theorem Reads.string {t : TypeId} {v : Value} (ht : P.underlying t = some .string) (h : Reads enc P w base spare held t v) : ∃ s, v = .string s ∧ s.size ≤ maxLen := by
  obtain ⟨y, n, h⟩ := h
  obtain ⟨m, hm, _, hw⟩ := DataW.trod_string ht h
  simp at hm
  exact ⟨m, hm, hw⟩
theorem Reads.bool {t : TypeId} {v : Value} (ht : P.underlying t = some .bool) (h : Reads enc P w base spare held t v) : ∃ b, v = .bool b := by
  obtain ⟨y, n, h⟩ := h
  obtain ⟨m, hm, _⟩ := DataW.trod_bool ht h
  simp at hm
  exact ⟨m, hm⟩
/-- A slice: nil, or its length, capacity, and what its elements' cells read. -/
theorem Reads.slice {t e : TypeId} {fs : Array Field} {v : Value} (ht : P.underlying t = some (.slice e)) (he : P.underlying e = some (.struct fs)) (hone : oneCellFields P fs = true) (hC : P.cellsOf e = fs.size)
    (h : Reads enc P w base spare held t v) :
    v = .slice none 0 0 ∨ ∃ (a : Addr) (len cap : Nat), v = .slice (some a) len cap ∧ base ≤ a.block ∧ len ≤ cap ∧ cap ≤ maxLen ∧
      ∀ i, i < len → ∀ (j : Nat) (f : Field), fs[j]? = some f → ∃ c, w.cell? (a.add (i * fs.size + j)) = some c ∧ Reads enc P w base spare held f.type c := by
  obtain ⟨y, n, h⟩ := h
  rcases open_slice ht h with ⟨hcs, _⟩ | ⟨a, len, cap, m, n, D, Pl, hcs, hb, hl, hm, hmm, hx, hi⟩
  · left; simpa using hcs
  · right
    simp at hcs
    refine ⟨a, len, cap, hcs, hb, hl, hm, fun i him j f hj => ?_⟩
    have hi' : i < m := by rw [hmm]; split <;> omega
    obtain ⟨cs', hc, ht'⟩ := hi i hi'
    obtain ⟨hlen, hf⟩ := read_fields he hone hC ht'
    obtain ⟨c, hcj, hr⟩ := hf j f hj
    obtain ⟨_, hcl, hat⟩ := World.cells?_some hc
    have hjl : j < fs.size := (Array.getElem?_eq_some_iff.1 hj).1
    refine ⟨c, ?_, hr⟩
    rw [← Go.Deep.add_add, hC] at *
    have := hat j (by omega)
    rw [this]; exact hcj
end
end Go.Proofs.Ytedmkpdohffigaa
