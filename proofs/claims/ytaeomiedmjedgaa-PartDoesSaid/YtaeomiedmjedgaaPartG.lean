/- The calls that the document fixes, of a part. -/
import Derived.Test.YtaeomiedmjedgaaPartF
import Derived.Test.YtaeomiedmjedgaaFlashG
import Derived.Laws.StructEq
namespace Go.Proofs.Ytaeomiedmjedgaa
set_option linter.unusedVariables false
open Go Go.RowKit

theorem cellU {w w' : World} {S : List Nat} (hu : Upd S w w') {g j : Nat} {v : Value} (hg : g < w.heap.size) (hn : g ∉ S) (h : w.cell? ⟨g, j, none⟩ = some v) : w'.cell? ⟨g, j, none⟩ = some v :=
  (World.cell?_of_block (w := w) (hu.block g hg hn)).trans h
set_option maxRecDepth 100000 in
set_option maxHeartbeats 4000000 in
theorem pfixed_any (w : World) : Calls Try.prog 10 #[] w fun e w' => e = .returned (.bool true) ∧ Below w.heap.size w w' := by
  have PN := Box.mk (fun p bb cb w h => pnew_no p bb cb 2 2 px0 w h px0_ok px0_no (by omega))
  have PY := Box.mk (fun p bb cb w h => pnew_yes p bb cb 1 2 px0 w h px0_in)
  have W1 := Box.mk (fun q p bb cb w hf h h1 h2 => pwrite_any q p bb cb 1 2 px0 60 abc8 w hf px0_ok h px0_in h1 h2 (by omega) (by decide))
  have W2 := Box.mk (fun q p bb cb w hf h h1 h2 => pwrite_any q p bb cb 1 2 px1 1020 abc8 w hf px1_ok h px1_in h1 h2 (by omega) (by decide))
  rw [px_w] at W1
  rw [px_w2] at W2
  have ST := Box.mk (fun p bb cb w h => steps_any p bb cb px1 w h)
  have RD := Box.mk (fun p bb cb w h => read_any p bb cb px1 572 8 w h px1_ok (by omega) (by omega))
  rw [show (if px1.dead then _ else _ : Value) = readV px1 572 8 from rfl, px_rd] at RD
  have CL := Box.mk (fun q p bb cb w hf h => pclean_any q p bb cb 1 2 px1 0 60 w hf px1_ok h px1_in (by omega) (by omega))
  rw [px_cl] at CL
  have NW := Box.mk (fun w => new_yes 3 w (by unfold sizeN; decide))
  unfold Made at NW
  rw [px_new] at NW
  go_enter Try.func10, Try.ntmps10
  go_wp2_with fail
  refine (plan_yes 32 (by omega) (by omega) _).mono ?_
  rintro e w1 ⟨v, rfl, h4, b1⟩
  obtain ⟨g, cap, rfl, hg, hcap, h4⟩ := h4.at_
  have c6 := (h4 3 (by omega)).1; have c7 := (h4 3 (by omega)).2
  rw [show plS 32 3 = 22 from rfl] at c6
  rw [show plL 32 3 = 10 from rfl] at c7
  have B1 := Box.mk b1; have HG := Box.mk hg; have C6 := Box.mk c6; have C7 := Box.mk c7
  clear h4 b1 hg c6 c7
  go_wp2_with fail
  refine (plan_no 31 (by omega) _).mono ?_
  rintro e w2 ⟨rfl, rfl⟩
  go_wp2_with fail
  refine (NW.out _).mono ?_
  rintro e w3 ⟨p, bb, cb, rfl, hf, hp, hbb, hcb, b3⟩
  have HF := Box.mk hf; have B3 := Box.mk (B1.out.trans (b3.mono B1.out.size))
  have C6 := Box.mk ((b3.cell (p := ⟨g, 2 * 3, none⟩) HG.out).trans C6.out); have C7 := Box.mk ((b3.cell (p := ⟨g, 2 * 3 + 1, none⟩) HG.out).trans C7.out)
  have HG3 : Box (g < w3.heap.size) := ⟨Nat.lt_of_lt_of_le HG.out b3.size⟩
  have GP : Box (g ≠ p ∧ g ≠ bb ∧ g ≠ cb) := ⟨by have := HG.out; omega⟩
  have WP : Box (w.heap.size ≤ p ∧ w.heap.size ≤ bb) := ⟨by have := B1.out.size; omega⟩
  clear hf b3 B1 HG hp hbb hcb
  go_wp2_with fail
  refine (PY.out p bb cb _ HF.out).mono ?_
  rintro e w4 ⟨q, rfl, pa, hq, b4⟩
  have PA := Box.mk pa; have hl := HF.out.lt
  have NQ : Box (q ≠ p ∧ q ≠ bb ∧ q ≠ cb) := ⟨by omega⟩
  have HF4 := Box.mk (HF.out.upd (Upd.of_below b4) (S := []) (by simp) (by simp) (by simp)); have B4 := Box.mk (B3.out.trans (b4.mono B3.out.size))
  have C6 := Box.mk ((b4.cell (p := ⟨g, 2 * 3, none⟩) HG3.out).trans C6.out); have C7 := Box.mk ((b4.cell (p := ⟨g, 2 * 3 + 1, none⟩) HG3.out).trans C7.out)
  have HG4 : Box (g < w4.heap.size) := ⟨Nat.lt_of_lt_of_le HG3.out b4.size⟩
  clear pa b4 hl HF B3 HG3 hq
  go_wp2_with fail
  refine (PN.out p bb cb _ HF4.out).mono ?_
  rintro e w5 ⟨rfl, b5⟩
  have PA5 := Box.mk (PA.out.upd (Upd.of_below b5) (S := []) (by simp))
  have HF5 := Box.mk (HF4.out.upd (Upd.of_below b5) (S := []) (by simp) (by simp) (by simp)); have B5 := Box.mk (B4.out.trans (b5.mono B4.out.size))
  have C6 := Box.mk ((b5.cell (p := ⟨g, 2 * 3, none⟩) HG4.out).trans C6.out); have C7 := Box.mk ((b5.cell (p := ⟨g, 2 * 3 + 1, none⟩) HG4.out).trans C7.out)
  have HG5 : Box (g < w5.heap.size) := ⟨Nat.lt_of_lt_of_le HG4.out b5.size⟩
  clear b5 PA HF4 B4 HG4
  go_wp2_with fail
  refine (W1.out q p bb cb _ HF5.out PA5.out NQ.out.2.1 NQ.out.1).mono ?_
  rintro e w6 ⟨rfl, hf6, hu6⟩
  have PA6 := Box.mk (PA5.out.upd hu6 (by have := NQ.out; simp [this.1, this.2.1])); have HF6 := Box.mk hf6
  have B6 := Box.mk (Upd.below B5.out hu6 (by intro i hi; have := WP.out; simp at hi; omega) B5.out.size)
  have C6 := Box.mk (cellU hu6 HG5.out (by have := GP.out; simp [this.1, this.2.1]) C6.out); have C7 := Box.mk (cellU hu6 HG5.out (by have := GP.out; simp [this.1, this.2.1]) C7.out)
  have HG6 : Box (g < w6.heap.size) := ⟨Nat.lt_of_lt_of_le HG5.out hu6.size⟩
  clear hf6 hu6 PA5 HF5 B5 HG5
  go_wp2_with fail
  refine (ST.out p bb cb _ HF6.out).mono ?_
  rintro e w7 ⟨rfl, rfl⟩
  go_wp2_with fail
  refine (W2.out q p bb cb _ HF6.out PA6.out NQ.out.2.1 NQ.out.1).mono ?_
  rintro e w8 ⟨rfl, hf8, hu8⟩
  have PA8 := Box.mk (PA6.out.upd hu8 (by have := NQ.out; simp [this.1, this.2.1])); have HF8 := Box.mk hf8
  have B8 := Box.mk (Upd.below B6.out hu8 (by intro i hi; have := WP.out; simp at hi; omega) B6.out.size)
  have C6 := Box.mk (cellU hu8 HG6.out (by have := GP.out; simp [this.1, this.2.1]) C6.out); have C7 := Box.mk (cellU hu8 HG6.out (by have := GP.out; simp [this.1, this.2.1]) C7.out)
  clear hf8 hu8 PA6 HF6 B6 HG6
  go_wp2_with fail
  refine (RD.out p bb cb _ HF8.out).mono ?_
  rintro e w9 ⟨rfl, rfl⟩
  go_wp2_with fail
  refine (CL.out q p bb cb _ HF8.out PA8.out).mono ?_
  rintro e w10 ⟨rfl, rfl⟩
  have e2 : px1.steps = 2 := rfl
  have e3 : (abc8.toList == ({ data := #[97, 98, 99, 100, 101, 102, 103, 104] } : ByteArray).toList) = true := by unfold abc8; simp
  have e4 : abc8.toList = [97, 98, 99, 100, 101, 102, 103, 104] := by rw [ByteArray.toList_eq]; rfl
  have k6 := C6.out; have k7 := C7.out
  have SZ := Box.mk (fun w h => size_any q p 1 2 3 w h ⟨by omega, by omega, by omega, by omega⟩)
  go_wp2_with fail
  refine (SZ.out _ PA8.out).mono ?_
  rintro e w11 ⟨rfl, rfl⟩
  go_wp2_with fail
  go_ret
  exact ⟨rfl, B8.out⟩
end Go.Proofs.Ytaeomiedmjedgaa
