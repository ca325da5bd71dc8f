/- The document's answer on scalars: Digits. -/
import Derived.Test.YtpgichfagodkpaaScalarRefB
namespace Go.Proofs.Ytpgichfagodkpaa
set_option linter.unusedVariables false
open Go Go.RowKit

/-- The values of a number's digits. -/
def dvals (n c : Nat) : List Value := (List.range c).map fun j => Value.int .i64 (digit n j)
theorem dvals_get (n c j : Nat) (h : j < c) : (dvals n c)[j]? = some (.int .i64 (digit n j)) := by simp [dvals, h]
theorem dvals_snoc (n c v : Nat) (hn : n < 256 ^ c) (hv : v < 256) : dvals (n + 256 ^ c * v) (c + 1) = dvals n c ++ [.int .i64 (v : Int)] := by
  unfold dvals
  rw [List.range_succ, List.map_append]
  congr 1
  · apply List.map_congr_left
    intro j hj
    rw [digit_add n c v j hn hv, if_neg (by have := List.mem_range.1 hj; omega)]
  · simp [digit_add n c v c hn hv]

theorem leNat_take_lt (s : ByteArray) (k : Nat) (hk : k ≤ s.size) : leNat (s.data.toList.take k) < 256 ^ k := by
  have := leNat_lt (s.data.toList.take k)
  rwa [List.length_take, Nat.min_eq_left (by simpa using hk)] at this
theorem leNat_take_succ (s : ByteArray) (k : Nat) (hk : k < s.size) : leNat (s.data.toList.take (k + 1)) = leNat (s.data.toList.take k) + 256 ^ k * s[k].toNat := by
  rw [take_snoc s k hk, leNat_snoc, List.length_take, Nat.min_eq_left (by simpa using Nat.le_of_lt hk)]
theorem owned_row2 {w : World} {base n : Nat} {e : TypeId} {v : Value} {xs : List Value} (h : w.ownsRow base e 1 v n xs) (hn : v ≠ .slice none 0 0) :
    ∃ g cap, v = .slice (some ⟨g, 0, none⟩) n cap ∧ base ≤ g ∧ (∀ j u, xs[j]? = some u → w.cell? ⟨g, j, none⟩ = some u) ∧ g < w.heap.size := by
  have hc := fun g hg => h.cells (g := g) hg
  rcases h.2 with ⟨rfl, rfl⟩ | ⟨g, cap, cur, rfl, hbg, hg, hnc, _⟩
  · exact absurd rfl hn
  · refine ⟨g, cap, rfl, hbg, fun j u hu => ?_, (Array.getElem?_eq_some_iff.1 hg).1⟩
    have := hc g rfl j u hu
    rwa [addr_add] at this

set_option maxHeartbeats 1000000 in
theorem digits_any (s : ByteArray) (w : World) (hs : s.size ≤ 1000000) :
    Calls Try.prog 24 #[.string s] w fun e w' => ∃ b cap, w.heap.size ≤ b ∧ b < w'.heap.size ∧ e = .returned (.slice (some ⟨b, 0, none⟩) s.size cap) ∧ DRow w' b s.size (num s) ∧ Below w.heap.size w w' := by
  have HI := info_parts info_int
  go_enter Try.func24, Try.ntmps24
  go_wp2_with fail
  have hown0 := World.ownsRow_made (base := w.heap.size) (e := 3) (size := 1) w #[] 0 (Nat.le_refl _) (by omega) (by simp)
  go_loopw [3, 4] (fun v i wr => ∃ k : Nat, k ≤ s.size ∧ i = .int .i64 k ∧ wr.ownsRow w.heap.size 3 1 v k (dvals (leNat (s.data.toList.take k)) k) ∧ v ≠ .slice none 0 0 ∧ Below w.heap.size w wr) (fun _ i _ => s.size - (intOf i).toNat)
  case atStart => exact ⟨0, by omega, rfl, hown0, by simp, (Below.refl _ _).alloc (Nat.le_refl _) _⟩
  case round =>
    clear hown0
    obtain ⟨k, hk, rfl, hown, hnn, hbel⟩ := hrel
    obtain ⟨i0, hi, hz0, hz1, hz2⟩ := HI
    by_cases hlt : k < s.size
    · have hu := (s[k]).toNat_lt
      have HB := Box.mk hbel; clear hbel
      have HN := Box.mk hnn; clear hnn
      go_wp2_with (at_builtin; refine wpList_append_own _ rfl _ _ 32 rfl w.heap.size 3 i0 (.int .i64 0) 1 8 Try.underlying32 hi hz0 hz1 hz2 rfl (by decide) _ _ _ rfl (hown.alloc _) ⟨wr.heap.size, 0, none⟩ 1 1 [.int .i64 (s[k].toNat : Int)] rfl rfl ?c1 ?c2 ?c3 ?c4 ?c5 ?_)
      case c1 =>
        intro j u hj
        match j, hj with
        | 0, hj => simp at hj; subst hj; simp [Addr.add]
      case c2 => intro u hu; simp at hu; subst hu; rfl
      case c3 => unfold maxLen; omega
      case c4 => omega
      case c5 => have := HB.out.size; simp; omega
      intro v' w1 hown' hgrow hnil
      have hlo := hown.lt
      rw [← dvals_snoc _ _ _ (leNat_take_lt s k hk) hu, ← leNat_take_succ s k hlt] at hown'
      have hbel := (HB.out.alloc HB.out.size (.cells #[.int .i64 (s[k].toNat : Int)] 3)).grown hgrow (by have := HB.out.size; simp; omega) (fun t ht => (hlo t ht).1)
      clear hown hgrow HB hlo
      have HO := Box.mk hown'; clear hown'
      have HB := Box.mk hbel; clear hbel
      have HNN := Box.mk hnil; clear hnil
      go_wp2
      go_roundw
      case rel => exact ⟨k + 1, by omega, by go_num, HO.out, HNN.out, HB.out⟩
      case measure => simp [intOf]; omega
    · have hk2 : k = s.size := by omega
      subst hk2
      rw [List.take_of_length_le (by simp)] at hown
      have HO := Box.mk hown; clear hown
      have HB := Box.mk hbel; clear hbel
      have HNN := Box.mk hnn; clear hnn
      go_wp2
      go_ret
      obtain ⟨g, cap, rfl, hbg, hcells, hlt2⟩ := owned_row2 HO.out HNN.out
      exact ⟨g, cap, hbg, hlt2, rfl, fun j hj => hcells j _ (dvals_get _ _ _ hj), HB.out⟩

end Go.Proofs.Ytpgichfagodkpaa
