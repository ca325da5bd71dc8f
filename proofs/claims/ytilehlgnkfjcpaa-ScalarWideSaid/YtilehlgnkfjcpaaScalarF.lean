/- The scalar package: Add. -/
import Derived.Test.YtilehlgnkfjcpaaScalarE
namespace Go.Proofs.Ytilehlgnkfjcpaa
open Go Go.RowKit

/-- What holds at the head of Add's loop. -/
structure AddSt (w : World) (bx b2 X Y k : Nat) (o : Int) (wr : World) : Prop where
  x : ∃ O, wr.heap[bx]? = some (.cells (wcells O 8) 37 (0, 0)) ∧ O + o.toNat * 2 ^ (64 * k) = X + Y % 2 ^ (64 * k)
  y : wr.heap[b2]? = some (.cells (wcells Y 8) 37 (0, 0))
  o : 0 ≤ o ∧ o ≤ 1
  below : Below w.heap.size w wr

theorem limb_toNat (n i : Nat) : limb n i = ((n / 2 ^ (64 * i) % 18446744073709551616 : Nat) : Int) := by unfold limb; rfl

theorem AddSt.step {w wr : World} {bx b2 X Y k : Nat} {o s c : Int} {O : Nat} (h2 : wr.heap[b2]? = some (.cells (wcells Y 8) 37 (0, 0))) (h1 : wr.heap[bx]? = some (.cells (wcells O 8) 37 (0, 0)))
    (hO : O + o.toNat * 2 ^ (64 * k) = X + Y % 2 ^ (64 * k)) (ho : 0 ≤ o ∧ o ≤ 1) (hb : Below w.heap.size w wr) (hne : bx ≠ b2) (hw : w.heap.size ≤ bx)
    (hs : 0 ≤ s ∧ s < 18446744073709551616) (hc : 0 ≤ c ∧ c ≤ 1) (he : s + 18446744073709551616 * c = limb O k + limb Y k + o) :
    AddSt w bx b2 X Y (k + 1) c (wr.setCell ⟨bx, k, none⟩ (.int .u64 s)).drew := by
  obtain ⟨s, rfl⟩ := Int.eq_ofNat_of_zero_le hs.1
  refine ⟨⟨put O k s, ?_, ?_⟩, ?_, hc, (hb.setCell hw _).drew⟩
  · rw [heap_drew, heap_setCell_same _ _ _ _ _ _ h1, wcells_put _ _ _ _ (by omega)]
  · have h := put_add O k s
    rw [limb_toNat, limb_toNat] at he
    obtain ⟨o, rfl⟩ := Int.eq_ofNat_of_zero_le ho.1
    obtain ⟨c, rfl⟩ := Int.eq_ofNat_of_zero_le hc.1
    have hm : Y % 2 ^ (64 * (k + 1)) = Y % 2 ^ (64 * k) + 2 ^ (64 * k) * (Y / 2 ^ (64 * k) % 18446744073709551616) := by
      rw [show 64 * (k + 1) = 64 * k + 64 from by omega, Nat.pow_add, Nat.mod_mul]
    rw [hm, show 64 * (k + 1) = 64 * k + 64 from by omega, Nat.pow_add]
    simp only [Int.toNat_natCast] at hO ⊢
    have he' : s + 18446744073709551616 * c = O / 2 ^ (64 * k) % 18446744073709551616 + Y / 2 ^ (64 * k) % 18446744073709551616 + o := by omega
    generalize O / 2 ^ (64 * k) % 18446744073709551616 = p at he' h
    generalize Y / 2 ^ (64 * k) % 18446744073709551616 = q at he' ⊢
    generalize Y % 2 ^ (64 * k) = t at hO ⊢
    generalize 2 ^ (64 * k) = K at h hO ⊢
    have h3 : (s + 18446744073709551616 * c) * K = (p + q + o) * K := by rw [he']
    simp only [Nat.add_mul] at h3
    rw [Nat.mul_comm K q]
    have : c * (K * 2 ^ 64) = 18446744073709551616 * c * K := by rw [Nat.mul_comm K, ← Nat.mul_assoc, Nat.mul_comm c]
    omega
  · rw [heap_drew, heap_setCell_other _ _ _ _ (by simpa using hne.symm)]; exact h2

theorem add_end {O z X Y k : Nat} (h : O + z * 2 ^ (64 * k) = X + Y % 2 ^ (64 * k)) (hs : InWords (X + Y) k) (hY : InWords Y k) : O = X + Y := by
  unfold InWords at hs hY
  rw [Nat.mod_eq_of_lt hY] at h
  rcases Nat.eq_zero_or_pos z with hz | hz
  · rw [hz, Nat.zero_mul, Nat.add_zero] at h; exact h
  · have : 1 * 2 ^ (64 * k) ≤ z * 2 ^ (64 * k) := Nat.mul_le_mul hz (Nat.le_refl _)
    omega

set_option maxHeartbeats 1000000 in
theorem add_any (a b : ByteArray) (w : World) :
    Calls Try.prog 15 #[.string a, .string b] w fun e w' => e = .returned (if a.size = 32 ∧ b.size = 32 then .tuple #[.string (sc (num a + num b)), .int .i64 0] else .tuple #[.string ⟨#[]⟩, .int .i64 50]) ∧ Below w.heap.size w w' := by
  by_cases ha : a.size = 32
  · by_cases hb : b.size = 32
    · rw [if_pos ⟨ha, hb⟩]
      have ha' : ((a.size : Int) != 32) = false := by simp; omega
      have hb' : ((b.size : Int) != 32) = false := by simp; omega
      have HA := Box.mk ha; clear ha
      have HB := Box.mk hb; clear hb
      go_enter Try.func15, Try.ntmps15
      go_wp2_with fail
      refine (words_any a (by have := HA.out; omega) _).mono ?_
      rintro e w1 ⟨bx, hbx, rfl, hr1, hb1⟩
      go_wp2_with fail
      refine (words_any b (by have := HB.out; omega) _).mono ?_
      rintro e w2 ⟨b2, hb2, rfl, hr2, hb3⟩
      have hbl : bx < w1.heap.size := (Array.getElem?_eq_some_iff.1 hr1).1
      have hst : AddSt w bx b2 (num a) (num b) 0 0 w2 := ⟨⟨num a, (hb3.block _ hbl).trans hr1, by simp [Nat.mod_one]⟩, hr2, by omega, hb1.trans (hb3.mono hb1.size)⟩
      have hne : bx ≠ b2 := by omega
      have HS := Box.mk hst; clear hst
      clear hr1 hr2 hb1 hb3 hb2 hbl
      go_wp2_with fail
      go_loopw [8, 24] (fun o i wr => ∃ (k : Nat) (z : Int), k ≤ 8 ∧ i = .int .i64 k ∧ o = .int .u64 z ∧ AddSt w bx b2 (num a) (num b) k z wr) (fun _ i _ => 8 - (intOf i).toNat)
      case atStart => exact ⟨0, 0, by omega, rfl, rfl, HS.out⟩
      case round =>
        clear HS
        obtain ⟨k, z, hk, rfl, rfl, hs⟩ := hrel
        by_cases hlt : k < 8
        · obtain ⟨⟨O, h1, hO⟩, h2, hz, hbel⟩ := hs
          obtain ⟨s, c, hrun, hs, hc, he⟩ := add64_ex Try.prog 28 _ Try.func28 (by kernel_rfl) (by kernel_rfl) (by kernel_rfl) (by kernel_rfl) (limb O k) (limb (num b) k) z (limb_bd _ _) (limb_bd _ _) hz
          have hst := AddSt.step h2 h1 hO hz hbel hne hbx hs hc he
          have HS := Box.mk hst; clear hst
          have c1 : wr.cell? ⟨bx, k, none⟩ = some (.int .u64 (limb O k)) := by rw [cell_of_row _ _ _ _ _ _ h1]; exact wcells_get _ _ _ hlt
          have c2 : wr.cell? ⟨b2, k, none⟩ = some (.int .u64 (limb (num b) k)) := by rw [cell_of_row _ _ _ _ _ _ h2]; exact wcells_get _ _ _ hlt
          have f1 : wr.frozen? ⟨bx, k, none⟩ = false := frozen_of_row _ _ _ _ _ h1
          clear h1 h2 hO hbel hs hc he
          go_wp2_with fail
          go_region
          go_wp2
          go_roundw
          case rel => exact ⟨k + 1, c, by omega, by go_num, rfl, HS.out⟩
          case measure => simp [intOf]; omega
        · have hge : 8 ≤ k := by omega
          obtain ⟨⟨O, h1, hO⟩, h2, hz, hbel⟩ := hs
          have hX := num_in a 4 (by have := HA.out; omega)
          have hY := num_in b 4 (by have := HB.out; omega)
          have hlt8 : Box (InWords (num a + num b) 8) := ⟨InWords.sum (k := 4) (by decide) hX hY⟩
          have hOe := add_end hO (hlt8.out.mono hge) (hY.mono (by omega))
          subst hOe
          clear hX hY hO h2
          have HR := Box.mk h1; clear h1
          go_wp2_with fail
          refine (mod_any (num a + num b) 8 bx _ (by omega) hlt8.out HR.out).mono ?_
          rintro e w2 ⟨rfl, hb2⟩
          go_wp2_with fail
          refine (bytes_any _ _).mono ?_
          rintro e w3 ⟨rfl, hb3⟩
          go_wp2
          go_ret2
          exact ⟨rfl, hbel.trans ((hb2.mono hbel.size).trans (hb3.mono (Nat.le_trans hbel.size hb2.size)))⟩
    · rw [if_neg (fun h => hb h.2)]
      have ha' : ((a.size : Int) != 32) = false := by simp; omega
      have hb' : ((b.size : Int) != 32) = true := by simp; omega
      have HA := Box.mk ha; clear ha
      have HB := Box.mk hb; clear hb
      go_enter Try.func15, Try.ntmps15
      go_wp2
      go_ret2
      exact ⟨rfl, Below.refl _ _⟩
  · rw [if_neg (fun h => ha h.1)]
    have ha' : ((a.size : Int) != 32) = true := by simp; omega
    have HA := Box.mk ha; clear ha
    go_enter Try.func15, Try.ntmps15
    go_wp2
    go_ret2
    exact ⟨rfl, Below.refl _ _⟩
end Go.Proofs.Ytilehlgnkfjcpaa
