/- The laws on scalars: fixed, the calls whose answers the document fixes. -/
import Derived.Test.YtilehlgnkfjcpaaScalarL

namespace Go.Proofs.Ytilehlgnkfjcpaa
open Go Go.RowKit

theorem eqT {a b : ByteArray} (h : a = b) : (a.toList == b.toList) = true := by rw [h]; simp
theorem sc_order (m : Int) (h : -237 ≤ m ∧ m ≤ 18) : num (sbytes (ordL + m).toNat) = (ordL + m).toNat := by
  rw [num_sbytes]; exact Nat.mod_eq_of_lt (by unfold ordL; omega)

set_option maxRecDepth 100000 in
set_option maxHeartbeats 1000000 in
theorem fixed_any (w : World) :
    Calls Try.prog 12 #[] w fun e w' => e = .returned (.bool true) ∧ Below w.heap.size w w' := by
  have hmk : ∀ w, (Instr.makeSlice 31 (.int .i64 65) (.int .i64 65)).run Try.prog w = .ok (.slice (some ⟨w.heap.size, 0, none⟩) 65 65) (w.alloc (.cells (bcells 0 0 65) 5)) := fun _ => by kernel_rfl
  have hz : bcells 0 0 65 = ((leList 65 0).map fun u => Value.int .u8 (u.toNat : Int)).toArray := by rw [← bcells_all]; simp [bcells]
  have hcv : ∀ (w : World), (convert 31 9 (.slice (some ⟨w.heap.size, 0, none⟩) 65 65)).run Try.prog (w.alloc (.cells (bcells 0 0 65) 5)) = .ok (.string ⟨(leList 65 0).toArray⟩) (w.alloc (.cells (bcells 0 0 65) 5)) := fun w =>
    run_bytes_of_row Try.prog _ w.heap.size 65 _ 5 31 9 5 65 (leList_length _ _) Try.underlying31 Try.underlying5 Try.underlying9 (by rw [heap_alloc_new, hz])
  obtain ⟨Z, hZ⟩ : ∃ Z : ByteArray, Z = ⟨(leList 65 0).toArray⟩ := ⟨_, rfl⟩
  rw [← hZ] at hcv
  have HZ : Box (Z.size = 65) := ⟨by rw [hZ]; exact leList_length 65 0⟩
  clear hZ hz
  go_enter Try.func12, Try.ntmps12
  go_wp2_with fail
  refine (lorder_any 0 (by omega) _).mono ?_
  rintro e w1 ⟨O1, HO1, rfl, h1⟩
  go_wp2_with fail
  refine (reduce_ok O1 (by rw [HO1.out, sbytes_size]; omega) _).mono ?_
  rintro e w2 ⟨A, HA, rfl, k2⟩
  have h2 := bthen h1 k2; clear h1 k2
  go_wp2_with fail
  refine (lorder_any 5 (by omega) _).mono ?_
  rintro e w3 ⟨O2, HO2, rfl, k3⟩
  have h3 := bthen h2 k3; clear h2 k3
  go_wp2_with fail
  refine (reduce_ok O2 (by rw [HO2.out, sbytes_size]; omega) _).mono ?_
  rintro e w4 ⟨B, HB, rfl, k4⟩
  have h4 := bthen h3 k4; clear h3 k4
  go_wp2_with fail
  refine (lorder_any (-1) (by omega) _).mono ?_
  rintro e w5 ⟨O3, HO3, rfl, k5⟩
  have h5 := bthen h4 k5; clear h4 k5
  go_wp2_with fail
  refine (lnum_any 2 (by omega) _).mono ?_
  rintro e w6 ⟨N2, HN2, rfl, k6⟩
  have h6 := bthen h5 k6; clear h5 k6
  go_wp2_with fail
  refine (add_ok O3 N2 (by rw [HO3.out, sbytes_size]) (by rw [HN2.out, sc_size]) _).mono ?_
  rintro e w7 ⟨C, HC, rfl, k7⟩
  have h7 := bthen h6 k7; clear h6 k7
  go_wp2_with fail
  refine (lorder_any (-1) (by omega) _).mono ?_
  rintro e w8 ⟨O4, HO4, rfl, k8⟩
  have h8 := bthen h7 k8; clear h7 k8
  go_wp2_with fail
  refine (lorder_any (-1) (by omega) _).mono ?_
  rintro e w9 ⟨O5, HO5, rfl, k9⟩
  have h9 := bthen h8 k9; clear h8 k9
  go_wp2_with fail
  refine (mul_ok O4 O5 (by rw [HO4.out, sbytes_size]) (by rw [HO5.out, sbytes_size]) _).mono ?_
  rintro e w10 ⟨D, HD, rfl, k10⟩
  have h10 := bthen h9 k10; clear h9 k10
  go_wp2_with fail
  refine (lnum_any 1 (by omega) _).mono ?_
  rintro e w11 ⟨N1, HN1, rfl, k11⟩
  have h11 := bthen h10 k11; clear h10 k11
  go_wp2_with fail
  refine (mul_no _ N1 (fun h => absurd h.1 (by decide)) _).mono ?_
  rintro e w12 ⟨rfl, k12⟩
  have h12 := bthen h11 k12; clear h11 k12
  go_wp2_with fail
  refine (reduce_no Z (by rw [HZ.out]; omega) _).mono ?_
  rintro e w13 ⟨rfl, k13⟩
  have h13 := bthen (h12.alloc h12.size _) k13; clear h12 k13
  go_wp2_with fail
  refine (lnum_any 0 (by omega) _).mono ?_
  rintro e w14 ⟨M0, HM0, rfl, k14⟩
  have h14 := bthen h13 k14; clear h13 k14
  have q0 : (A.toList == M0.toList) = true := eqT (by rw [HA.out, HO1.out, HM0.out, sc_order _ (by omega)]; exact sc_congr (by simp [ordL]))
  go_wp2_with fail
  refine (lnum_any 5 (by omega) _).mono ?_
  rintro e w15 ⟨M5, HM5, rfl, k15⟩
  have h15 := bthen h14 k15; clear h14 k15
  have q1 : (B.toList == M5.toList) = true := eqT (by rw [HB.out, HO2.out, HM5.out, sc_order _ (by omega)]; exact sc_congr (by unfold ordL; omega))
  go_wp2_with fail
  refine (lnum_any 1 (by omega) _).mono ?_
  rintro e w16 ⟨M1, HM1, rfl, k16⟩
  have h16 := bthen h15 k16; clear h15 k16
  have q2 : (C.toList == M1.toList) = true := eqT (by rw [HC.out, HO3.out, HN2.out, HM1.out, sc_order _ (by omega), num_sc]; exact sc_congr (by unfold ordL; omega))
  go_wp2_with fail
  refine (lnum_any 1 (by omega) _).mono ?_
  rintro e w17 ⟨P1, HP1, rfl, k17⟩
  have h17 := bthen h16 k17; clear h16 k17
  have q3 : (D.toList == P1.toList) = true := eqT (by rw [HD.out, HO4.out, HO5.out, HP1.out, sc_order _ (by omega)]; exact sc_congr (by unfold ordL; decide))
  go_wp2_with fail
  refine (lorder_any (-1) (by omega) _).mono ?_
  rintro e w18 ⟨O6, HO6, rfl, k18⟩
  have h18 := bthen h17 k18; clear h17 k18
  go_wp2_with fail
  refine (is_yes O6 ⟨by rw [HO6.out, sbytes_size], by rw [HO6.out, sc_order _ (by omega)]; unfold ordL; omega⟩ _).mono ?_
  rintro e w19 ⟨rfl, k19⟩
  have h19 := bthen h18 k19; clear h18 k19
  go_wp2_with fail
  refine (lorder_any 0 (by omega) _).mono ?_
  rintro e w20 ⟨O7, HO7, rfl, k20⟩
  have h20 := bthen h19 k20; clear h19 k20
  go_wp2_with fail
  refine (is_no O7 (by rw [HO7.out, sc_order _ (by omega)]; rintro ⟨_, h⟩; unfold ordL at h; omega) _).mono ?_
  rintro e w21 ⟨rfl, k21⟩
  have h21 := bthen h20 k21; clear h20 k21
  go_wp2
  go_ret
  exact ⟨rfl, h21⟩
end Go.Proofs.Ytilehlgnkfjcpaa
