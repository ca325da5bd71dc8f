/- The flash: New; fit. -/
import Derived.Test.YtaeomiedmjedgaaFlashF
namespace Go.Proofs.Ytaeomiedmjedgaa
set_option linter.unusedVariables false
open Go Go.RowKit

/-- So many blocks are a flash's. -/
@[irreducible] def sizeN (n : Int) : Bool := decide (1 ≤ n ∧ n ≤ 256)
set_option maxHeartbeats 1000000 in
theorem new_yes (k : Nat) (w : World) (hs : sizeN k = true) :
    Calls Try.prog 11 #[.int .i64 k] w (Made 75 w (List.replicate (512 * k) 255)) := by
  have hk : 1 ≤ (k : Int) ∧ (k : Int) ≤ 256 := by unfold sizeN at hs; exact of_decide_eq_true hs
  have HS := Box.mk hs; clear hs
  have h1 : decide ((k : Int) < 1) = false := by rw [decide_eq_false_iff_not]; omega
  have h2 : decide (256 < (k : Int)) = false := by rw [decide_eq_false_iff_not]; omega
  go_enter Try.func11, Try.ntmps11
  go_wp2_with fail
  obtain ⟨n, hn⟩ : ∃ n, n = 512 * k := ⟨_, rfl⟩
  have hn1 : ((k : Int) * 512) = (n : Int) := by omega
  have hsz : sizeB n = true := by unfold sizeB; rw [decide_eq_true_iff]; omega
  rw [hn1, ← hn]
  have HN := Box.mk hn; clear hn hn1
  have HSZ := Box.mk hsz; clear hsz
  have hn2 : 1 ≤ n := by have := HN.out; omega
  have hn3 : n ≤ 1000000 := by have := HN.out; omega
  refine (repeat_any w.heap.size n _ hn2 hn3 (cell_of_row _ _ _ _ _ _ (heap_alloc_new _ _)) (by simp)).mono ?_
  rintro e w1 ⟨g, hg, rfl, hrow, hb⟩
  have hz := hb.size
  simp only [World.size_alloc] at hg hz
  go_wp2_with fail
  refine (of_yes g n (List.replicate n 255) n (by simp) _ hrow (Nat.le_refl _) hn3 HSZ.out).mono ?_
  rintro e w2 ⟨p, cb, rfl, hf, hp, hc, hb2⟩
  go_wp2
  go_ret2
  have hz2 := hb2.size
  exact ⟨p, g, cb, rfl, hf.to (by rw [HN.out]), by omega, by omega, by omega, ((((Below.refl _ _).alloc (Nat.le_refl _) _).trans (hb.mono (by simp)))).trans (hb2.mono (by omega))⟩

theorem new_no (k : Int) (w : World) (hs : sizeN k = false) :
    Calls Try.prog 11 #[.int .i64 k] w fun e w' => e = .returned (.tuple #[.pointer none, .int .i64 110]) ∧ w = w' := by
  have hk : ¬ (1 ≤ k ∧ k ≤ 256) := by unfold sizeN at hs; exact of_decide_eq_false hs
  have HS := Box.mk hs; clear hs
  by_cases h : k < 1
  · have h1 : decide (k < 1) = true := by simpa using h
    clear hk
    go_enter Try.func11, Try.ntmps11
    go_wp2
    go_ret2
    exact ⟨rfl, rfl⟩
  · have h1 : decide (k < 1) = false := by simpa using h
    have h2 : decide (256 < k) = true := by rw [decide_eq_true_iff]; omega
    clear hk
    go_enter Try.func11, Try.ntmps11
    go_wp2
    go_ret2
    exact ⟨rfl, rfl⟩

theorem str_ne (s : ByteArray) (h : s.size ≠ 0) : s.toList.isEmpty = false := by
  rw [ByteArray.toList_eq]; cases hd : s.data.toList with
  | nil => exact absurd (by have := congrArg List.length hd; simpa using this) h
  | cons a b => rfl
theorem str_no (s : ByteArray) (h : s.size = 0) : s.toList.isEmpty = true := by
  rw [ByteArray.toList_eq, List.isEmpty_iff]; exact List.eq_nil_of_length_eq_zero (by simpa using h)
theorem zeros_str (m : Nat) (w : World) : (convert 52 9 (.slice (some ⟨w.heap.size, 0, none⟩) m m)).run Try.prog (w.alloc (.cells (Array.replicate m (.int .u8 0)) 5)) = .ok (.string ⟨(List.replicate m 0).toArray⟩) (w.alloc (.cells (Array.replicate m (.int .u8 0)) 5)) :=
  run_bytes_at Try.prog _ w.heap.size 0 m (List.replicate m 0) 52 9 5 m (by simp) Try.underlying52 Try.underlying5 Try.underlying9 (fun j u hu => by
    rw [List.getElem?_replicate] at hu
    split at hu
    · rename_i hj
      cases hu
      rw [cell_of_row _ _ _ _ _ _ (heap_alloc_new _ _), Array.getElem?_replicate, if_pos (by omega)]; rfl
    · cases hu)

end Go.Proofs.Ytaeomiedmjedgaa
