/- The scalar package: words of bytes. -/
import Derived.Test.YtilehlgnkfjcpaaScalarA
namespace Go.Proofs.Ytilehlgnkfjcpaa
open Go Go.RowKit

/-- The number of bytes, the lowest first. -/
def leNat : List UInt8 → Nat
  | [] => 0
  | b :: r => b.toNat + 256 * leNat r
theorem leNat_lt (l : List UInt8) : leNat l < 256 ^ l.length := by
  induction l with
  | nil => simp [leNat]
  | cons b r ih =>
    have := b.toNat_lt
    simp only [leNat, List.length_cons, Nat.pow_succ]; omega
theorem leNat_append (l r : List UInt8) : leNat (l ++ r) = leNat l + 256 ^ l.length * leNat r := by
  induction l with
  | nil => simp [leNat]
  | cons b l ih =>
    simp only [List.cons_append, leNat, List.length_cons, Nat.pow_succ, ih, Nat.mul_add, Nat.mul_comm (256 ^ l.length) 256, Nat.mul_assoc]; omega
theorem leNat_snoc (l : List UInt8) (c : UInt8) : leNat (l ++ [c]) = leNat l + 256 ^ l.length * c.toNat := by
  rw [leNat_append]; simp [leNat]
theorem take_snoc (s : ByteArray) (k : Nat) (h : k < s.size) : s.data.toList.take (k + 1) = s.data.toList.take k ++ [s[k]] := by
  rw [List.take_succ_eq_append_getElem (by simpa using h)]; rfl

/-- The words of a number, c of them. -/
def wcells (n c : Nat) : Array Value := ((List.range c).map fun j => Value.int .u64 (limb n j)).toArray
theorem wcells_size (n c : Nat) : (wcells n c).size = c := by simp [wcells]
theorem wcells_get (n c j : Nat) (h : j < c) : (wcells n c)[j]? = some (.int .u64 (limb n j)) := by simp [wcells, h]

theorem limb_word (n b k j : Nat) (hn : n < 256 ^ k) (hb : b < 256) :
    limb (n + 256 ^ k * b) j = if j = k / 8 then ((n / 2 ^ (64 * j) % 18446744073709551616 ||| b * 2 ^ (8 * (k % 8)) : Nat) : Int) else limb n j := by
  have e256 : ∀ q, 256 ^ q = 2 ^ (8 * q) := fun q => by rw [Nat.pow_mul]
  have hk : 8 * k = 64 * (k / 8) + 8 * (k % 8) := by omega
  rw [e256] at hn ⊢
  rw [hk, Nat.pow_add] at hn ⊢
  generalize hq : k / 8 = q at hn ⊢
  generalize hr : k % 8 = r at hn ⊢
  have hr8 : r < 8 := by omega
  clear hk hq hr e256
  have hx : n / 2 ^ (64 * q) < 2 ^ (8 * r) := (Nat.div_lt_iff_lt_mul (Nat.two_pow_pos _)).2 (by rw [Nat.mul_comm]; exact hn)
  have h64 : b * 2 ^ (8 * r) + 2 ^ (8 * r) ≤ 2 ^ 64 := by
    have : (b + 1) * 2 ^ (8 * r) ≤ 256 * 2 ^ (56) := Nat.mul_le_mul (by omega) (Nat.pow_le_pow_right (by omega) (by omega))
    rw [Nat.add_mul] at this; omega
  unfold limb
  congr 1
  split
  · rename_i h; subst h
    have e : (n + 2 ^ (64 * j) * 2 ^ (8 * r) * b) / 2 ^ (64 * j) = n / 2 ^ (64 * j) + b * 2 ^ (8 * r) := by
      rw [Nat.mul_assoc, Nat.add_mul_div_left _ _ (Nat.two_pow_pos _), Nat.mul_comm b]
    rw [e, Nat.mod_eq_of_lt (a := n / 2 ^ (64 * j)) (by omega), Nat.or_comm, nat_join (8 * r) _ _ (Nat.mul_mod_left _ _) hx]
    generalize n / 2 ^ (64 * j) = x at hx ⊢
    generalize b * 2 ^ (8 * r) = y at h64 ⊢
    generalize 2 ^ (8 * r) = z at h64 hx
    rw [Nat.mod_eq_of_lt (by omega)]; omega
  · rename_i h
    rcases Nat.lt_or_gt_of_ne h with h | h
    · obtain ⟨d, hd⟩ : ∃ d, 64 * q = 64 * j + (64 + d) := ⟨64 * (q - j - 1), by omega⟩
      have e : n + 2 ^ (64 * q) * 2 ^ (8 * r) * b = n + 2 ^ (64 * j) * (2 ^ 64 * (2 ^ d * 2 ^ (8 * r) * b)) := by
        rw [hd, Nat.pow_add, Nat.pow_add]; simp only [Nat.mul_assoc]
      rw [e, Nat.add_mul_div_left _ _ (Nat.two_pow_pos _)]
      omega
    · have hle : 2 ^ (64 * q) * 2 ^ 64 ≤ 2 ^ (64 * j) := by rw [← Nat.pow_add]; exact Nat.pow_le_pow_right (by omega) (by omega)
      have h1 : 2 ^ (64 * q) * (b * 2 ^ (8 * r) + 2 ^ (8 * r)) ≤ 2 ^ (64 * q) * 2 ^ 64 := Nat.mul_le_mul (Nat.le_refl _) h64
      have h2 : n + 2 ^ (64 * q) * 2 ^ (8 * r) * b < 2 ^ (64 * q) * (b * 2 ^ (8 * r) + 2 ^ (8 * r)) := by
        rw [Nat.mul_add, Nat.mul_comm b, ← Nat.mul_assoc]; omega
      have h3 : n < 2 ^ (64 * j) := by
        have := Nat.le_add_right n (2 ^ (64 * q) * 2 ^ (8 * r) * b); omega
      rw [Nat.div_eq_of_lt (by omega), Nat.div_eq_of_lt h3]

theorem word_or (n b k : Nat) (hn : n < 256 ^ k) (hb : b < 256) :
    bits .or .u64 (limb n (k / 8)) (IntKind.u64.wrap (IntKind.u64.wrap (b : Int) * 2 ^ (8 * (k % 8)))) = limb (n + 256 ^ k * b) (k / 8) := by
  have hr : k % 8 < 8 := by omega
  have h64 : b * 2 ^ (8 * (k % 8)) < 18446744073709551616 := by
    have : b * 2 ^ (8 * (k % 8)) ≤ 255 * 2 ^ 56 := Nat.mul_le_mul (by omega) (Nat.pow_le_pow_right (by omega) (by omega))
    omega
  rw [limb_word n b k _ hn hb, if_pos rfl]
  have e : IntKind.u64.wrap (IntKind.u64.wrap (b : Int) * 2 ^ (8 * (k % 8))) = ((b * 2 ^ (8 * (k % 8)) : Nat) : Int) := by
    rw [IntKind.wrap_u64, IntKind.wrap_u64, Int.emod_eq_of_lt (a := (b : Int)) (by omega) (by omega)]
    rw [show ((2 : Int) ^ (8 * (k % 8))) = ((2 ^ (8 * (k % 8)) : Nat) : Int) from by simp, ← Int.natCast_mul]
    rw [Int.emod_eq_of_lt (by omega) (by omega)]
  rw [e]; unfold limb
  exact u64_or_nat _ _ (by omega) h64

theorem wcells_step (n b k c : Nat) (hn : n < 256 ^ k) (hb : b < 256) :
    (wcells n c).setIfInBounds (k / 8) (.int .u64 (limb (n + 256 ^ k * b) (k / 8))) = wcells (n + 256 ^ k * b) c := by
  apply Array.ext
  · simp [wcells]
  · intro i h1 h2
    rw [Array.getElem_setIfInBounds (by simpa using h1)]
    split
    · rename_i h; subst h; simp [wcells]
    · rename_i h; simp only [wcells, List.getElem_toArray, List.getElem_map, List.getElem_range]
      rw [limb_word n b k i hn hb, if_neg (by omega)]

set_option maxHeartbeats 400000 in
theorem words_any (s : ByteArray) (hs : s.size ≤ 64) (w : World) :
    Calls Try.prog 24 #[.string s] w fun e w' => ∃ b, w.heap.size ≤ b ∧ e = .returned (.slice (some ⟨b, 0, none⟩) 8 8) ∧ w'.heap[b]? = some (.cells (wcells (leNat s.data.toList) 8) 37 (0, 0)) ∧ Below w.heap.size w w' := by
  have hmk : ∀ w, (Instr.makeSlice 43 (.int .i64 8) (.int .i64 8)).run Try.prog w = .ok (.slice (some ⟨w.heap.size, 0, none⟩) 8 8) (w.alloc (.cells #[.int .u64 0, .int .u64 0, .int .u64 0, .int .u64 0, .int .u64 0, .int .u64 0, .int .u64 0, .int .u64 0] 37)) := fun _ => by kernel_rfl
  go_enter Try.func24, Try.ntmps24
  go_wp2
  go_loopw [8] (fun i wr => ∃ k : Nat, k ≤ s.size ∧ i = .int .i64 k ∧ wr.heap[w.heap.size]? = some (.cells (wcells (leNat (s.data.toList.take k)) 8) 37 (0, 0)) ∧ Below w.heap.size w wr) (fun i _ => s.size - (intOf i).toNat)
  case atStart => exact ⟨0, Nat.zero_le _, rfl, by rw [heap_alloc_new]; simp [wcells, leNat, limb, List.range, List.range.loop], by go_grown⟩
  case round =>
    obtain ⟨k, hk, rfl, hrow, hbel⟩ := hrel
    by_cases hlt : k < s.size
    · have hc : wr.cell? ⟨w.heap.size, k / 8, none⟩ = some (.int .u64 (limb (leNat (s.data.toList.take k)) (k / 8))) := by
        rw [cell_of_row _ _ _ _ _ _ hrow]; exact wcells_get _ _ _ (by omega)
      have hf : wr.frozen? ⟨w.heap.size, k / 8, none⟩ = false := by simp [World.frozen?, hrow]
      have hbd := limb_bd (leNat (s.data.toList.take k)) (k / 8)
      have HR := Box.mk hrow; clear hrow
      have HB := Box.mk hbel; clear hbel
      have hn : leNat (s.data.toList.take k) < 256 ^ k := by have := leNat_lt (s.data.toList.take k); rwa [List.length_take, Nat.min_eq_left (by simpa using hk)] at this
      obtain ⟨x, hx⟩ : ∃ x, x = limb (leNat (s.data.toList.take k)) (k / 8) := ⟨_, rfl⟩
      rw [← hx] at hc hbd
      have HX := Box.mk hx; clear hx
      go_wp2
      go_region
      go_wp2
      go_roundw
      case rel =>
        refine ⟨k + 1, by omega, by go_num, ?_, ?_⟩
        · rw [heap_drew, heap_setCell_same _ _ _ _ _ _ HR.out, take_snoc s k hlt, leNat_snoc, HX.out, word_or _ _ _ hn s[k].toNat_lt]
          rw [List.length_take, Nat.min_eq_left (by simpa using hk), wcells_step _ _ _ _ hn s[k].toNat_lt]
        · exact (HB.out.setCell (Nat.le_refl _) _).drew
      case measure => simp [intOf]; omega
    · have hk' : k = s.size := by omega
      subst hk'
      have HR := Box.mk hrow; clear hrow
      have HB := Box.mk hbel; clear hbel
      go_wp2
      go_returns
      refine ⟨w.heap.size, Nat.le_refl _, rfl, ?_, HB.out⟩
      rw [HR.out, List.take_of_length_le (by simp)]
end Go.Proofs.Ytilehlgnkfjcpaa
