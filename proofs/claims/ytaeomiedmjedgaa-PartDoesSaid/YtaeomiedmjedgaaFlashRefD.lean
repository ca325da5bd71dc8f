/- The document's flash: one is made. -/
import Derived.Test.YtaeomiedmjedgaaFlashRefC
namespace Go.Proofs.Ytaeomiedmjedgaa
set_option linter.unusedVariables false
open Go Go.RowKit

set_option maxHeartbeats 1000000 in
theorem ropen_no (s : ByteArray) (w : World) (hs : sizeB s.size = false) :
    Calls Try.prog 49 #[.string s] w fun e w' => e = .returned (.tuple #[.pointer none, .int .i64 110]) ∧ w = w' := by
  have hs' : ¬ (1 ≤ s.size / 512 ∧ s.size / 512 ≤ 256 ∧ s.size % 512 = 0) := by unfold sizeB at hs; exact of_decide_eq_false hs
  have HS := Box.mk hs'; clear hs hs'
  by_cases h0 : s.size = 0
  · have h0' : ((s.size : Int) == 0) = true := by rw [beq_iff_eq]; omega
    clear h0
    go_enter Try.func49, Try.ntmps49
    go_wp2
    go_ret2
    exact ⟨rfl, rfl⟩
  · have h0' : ((s.size : Int) == 0) = false := by rw [beq_eq_false_iff_ne]; omega
    by_cases h1 : s.size % 512 = 0
    · have h1' : ((s.size : Int) % 512 != 0) = false := by rw [bne_eq_false_iff_eq]; omega
      have h2 : (131072 : Int) < (s.size : Int) := by have := HS.out; omega
      clear h0 h1
      go_enter Try.func49, Try.ntmps49
      go_wp2
      go_ret2
      exact ⟨rfl, rfl⟩
    · have h1' : ((s.size : Int) % 512 != 0) = true := by rw [bne_iff_ne]; omega
      clear h0 h1
      go_enter Try.func49, Try.ntmps49
      go_wp2
      go_ret2
      exact ⟨rfl, rfl⟩

set_option maxHeartbeats 1000000 in
theorem ropen_yes (s : ByteArray) (w : World) (hs : sizeB s.size = true) :
    Calls Try.prog 49 #[.string s] w (Made 64 w s.data.toList) := by
  have hs' : 1 ≤ s.size / 512 ∧ s.size / 512 ≤ 256 ∧ s.size % 512 = 0 := by unfold sizeB at hs; exact of_decide_eq_true hs
  have hcv := fun w => Lib.run_convert_string_bytes (P := Try.prog) w 9 52 5 s Try.underlying9 Try.underlying52 Try.underlying5
  have hmk := fun w => make_ints (s.size / 512) ((s.size : Int) / 512) (by omega) (by omega) w
  have h0' : ((s.size : Int) == 0) = false := by rw [beq_eq_false_iff_ne]; omega
  have h1' : ((s.size : Int) % 512 != 0) = false := by rw [bne_eq_false_iff_eq]; omega
  have h2 : ¬ (131072 : Int) < (s.size : Int) := by omega
  have hsz := Lib.bytesWorld_size w 5 s
  have HS := Box.mk hs'; clear hs hs'
  go_enter Try.func49, Try.ntmps49
  go_wp2
  go_ret2
  have hlen : s.data.toList.length = s.size := by simp
  obtain ⟨sp, fr, hb, hfr⟩ := bytesWorld_row w s
  refine ⟨w.heap.size + 1 + 1, w.heap.size, w.heap.size + 1, rfl, ⟨⟨grownCap w s.size 0 5, s.size / 512, by show s.data.toList.length ≤ _; rw [hlen]; exact grownCap_ge w _ _ _, by simp [FS.new], ?_⟩, ⟨sp, fr, ?_, hfr⟩, ⟨[], ?_⟩, by omega, by omega, by omega⟩, by omega, by omega, by omega, ?_⟩
  · rw [← hsz, row_new]; simp [FS.new]
  · rw [heap_alloc_old _ _ (by simp [hsz]; omega), heap_alloc_old _ _ (by rw [hsz]; omega)]; exact hb
  · rw [← hsz, row_old]; simp [FS.new, nval]
  · exact ((bytesWorld_below w s).alloc (by rw [hsz]; omega) _).alloc (by simp [hsz]; omega) _

set_option maxHeartbeats 1000000 in
theorem rnew_no (k : Int) (w : World) (hs : sizeN k = false) :
    Calls Try.prog 25 #[.int .i64 k] w fun e w' => e = .returned (.tuple #[.pointer none, .int .i64 110]) ∧ w = w' := by
  have hk : ¬ (1 ≤ k ∧ k ≤ 256) := by unfold sizeN at hs; exact of_decide_eq_false hs
  have HS := Box.mk hs; clear hs
  by_cases h : k < 1
  · have h1 : decide (k < 1) = true := by simpa using h
    clear hk
    go_enter Try.func25, Try.ntmps25
    go_wp2
    go_ret2
    exact ⟨rfl, rfl⟩
  · have h1 : decide (k < 1) = false := by simpa using h
    have h2 : decide (256 < k) = true := by rw [decide_eq_true_iff]; omega
    clear hk
    go_enter Try.func25, Try.ntmps25
    go_wp2
    go_ret2
    exact ⟨rfl, rfl⟩

theorem fill_step (m n : Nat) (h : m < n) : (List.replicate m (bval 255) ++ List.replicate (n - m) (Value.int .u8 0)).set m (.int .u8 255) = List.replicate (m + 1) (bval 255) ++ List.replicate (n - (m + 1)) (Value.int .u8 0) := by
  rw [List.set_append_right _ _ (by simp), List.length_replicate, Nat.sub_self, show n - m = (n - (m + 1)) + 1 from by omega, List.replicate_succ, List.set_cons_zero, List.replicate_succ' (n := m), List.append_assoc]
  rfl
set_option maxHeartbeats 1000000 in
theorem rnew_yes (k : Nat) (w : World) (hs : sizeN k = true) :
    Calls Try.prog 25 #[.int .i64 k] w (Made 64 w (List.replicate (512 * k) 255)) := by
  have hk : 1 ≤ (k : Int) ∧ (k : Int) ≤ 256 := by unfold sizeN at hs; exact of_decide_eq_true hs
  have HS := Box.mk hs; clear hs
  have h1 : decide ((k : Int) < 1) = false := by rw [decide_eq_false_iff_not]; omega
  have h2 : decide (256 < (k : Int)) = false := by rw [decide_eq_false_iff_not]; omega
  obtain ⟨n, hn⟩ : ∃ n, n = 512 * k := ⟨_, rfl⟩
  have hn2 : 1 ≤ n ∧ n ≤ 131072 := by omega
  have hmk := fun w => make_bytes n (512 * (k : Int)) (by omega) (by omega) w
  have hsz : sizeB n = true := by unfold sizeB; rw [decide_eq_true_iff]; omega
  have HN := Box.mk hn; clear hn
  have HSZ := Box.mk hsz; clear hsz
  go_enter Try.func25, Try.ntmps25
  go_wp2
  go_loopw [5] (fun i wr => ∃ m : Nat, m ≤ n ∧ i = .int .i64 m ∧ wr.heap[w.heap.size]? = some (.cells (List.replicate m (bval 255) ++ List.replicate (n - m) (Value.int .u8 0)).toArray 5 (0, 0)) ∧ Below w.heap.size w wr) (fun i _ => n - (intOf i).toNat)
  case atStart => exact ⟨0, by omega, rfl, by rw [heap_alloc_new]; simp, (Below.refl _ _).alloc (Nat.le_refl _) _⟩
  case round =>
    obtain ⟨m, hm, rfl, hg, hb⟩ := hrel
    have HG := Box.mk hg; have HB := Box.mk hb; clear hb
    by_cases hlt : m < n
    · have hI : (m : Int) < (n : Int) := by omega
      have e1 : wr.frozen? ⟨w.heap.size, m, none⟩ = false := frozen_of_row _ _ _ _ _ hg
      have e2 : wr.cell? ⟨w.heap.size, m, none⟩ = some (.int .u8 0) := by
        rw [cell_of_row _ _ _ _ _ _ hg, List.getElem?_toArray, List.getElem?_append_right (by simp), List.length_replicate, Nat.sub_self, List.getElem?_replicate, if_pos (by omega)]
      clear hg
      go_wp2
      refine ⟨⟨m + 1, by omega, by go_num, ?_, HB.out.setCell (Nat.le_refl _) _⟩, by simp [intOf]; omega⟩
      rw [heap_setCell_same _ _ _ _ _ _ HG.out, List.setIfInBounds_toArray, fill_step _ _ hlt]
    · obtain rfl : m = n := by omega
      clear hg
      have hcv := run_bytes_at Try.prog wr w.heap.size 0 m (List.replicate m 255) 52 9 5 m (by simp) Try.underlying52 Try.underlying5 Try.underlying9 (fun j u hu => by
        have hjm : j < m := by have := (List.getElem?_eq_some_iff.1 hu).1; simpa using this
        rw [Nat.zero_add, cell_of_row _ _ _ _ _ _ HG.out, List.getElem?_toArray, List.getElem?_append_left (by simpa using hjm), List.getElem?_replicate, if_pos hjm]
        rw [List.getElem?_replicate, if_pos hjm] at hu
        cases hu; rfl)
      go_wp2_with fail
      refine (ropen_yes ⟨(List.replicate m 255).toArray⟩ _ (by show sizeB (List.replicate m (255 : UInt8)).toArray.size = true; simp [HSZ.out])).mono ?_
      rintro e w2 ⟨p, bb, cb, rfl, hf, hp, hbb, hcb, hb2⟩
      have hz := HB.out.size
      go_wp2
      go_ret2
      exact ⟨p, bb, cb, rfl, hf.to (by rw [← HN.out]), by omega, by omega, by omega, HB.out.trans (hb2.mono hz)⟩
end Go.Proofs.Ytaeomiedmjedgaa
