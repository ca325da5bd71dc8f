/- The logs' laws: over, where the flash has room; a log opened anew. -/
import Derived.Test.YtjednaendedpdaaGreatM23
import Derived.Test.YtjednaendedpdaaGreatM14
namespace Go.Proofs.YtjednaendedpdaaGreat
set_option maxRecDepth 100000
set_option linter.unusedVariables false
open Go Go.RowKit

set_option maxHeartbeats 2000000 in
theorem lover_in (p bb cb : Nat) (b : Int) (s : FS) (w : World) (hf : Fl 89 w p bb cb s) (hi : In s.n.length (1 : Nat) (bN b : Nat)) : Calls Tryz.prog 7 #[.pointer (some ⟨p, 0, none⟩), .int .i64 b] w fun e w' => ∃ q, e = .returned (.pointer (some ⟨q, 0, none⟩)) ∧ Pa w' q p (1 : Nat) (bN b : Nat) ∧ w.heap.size ≤ q ∧ Below w.heap.size w w' := by
  have RG := Box.mk (fun w => region_any b w)
  have hbd := bN_bd b
  generalize bN b = B at RG hbd hi ⊢
  have PN := Box.mk (fun w h => pnew_yes p bb cb (1 : Nat) (B : Nat) s w h hi)
  have HF := Box.mk hf
  clear hf hi hbd
  go_enter Tryz.func7, Tryz.ntmps7
  go_wp2_with fail
  refine (RG.out _).mono ?_
  rintro e w1 ⟨rfl, hb⟩
  have F1 := Box.mk (HF.out.upd (Upd.of_below (S := []) hb) (by simp) (by simp) (by simp)); have B1 := Box.mk hb
  clear hb
  go_wp2_with fail
  refine (PN.out _ F1.out).mono ?_
  rintro e w2 ⟨q, rfl, hp, hq, hb⟩
  have P2 := Box.mk hp; have B2 := Box.mk (B1.out.trans (hb.mono B1.out.size)); have Q2 := Box.mk (Nat.le_trans B1.out.size hq)
  clear hp hq hb F1 B1
  go_wp2_with fail
  go_ret
  exact ⟨q, rfl, P2.out, Q2.out, B2.out⟩
/-- A log opened anew over the same flash. -/
theorem OwL.anew {w wr w1 : World} {B g q p bb cb g2 q2 : Nat} {v v2 : Value} {s s2 : FS} {l l2 : LS} (h : OwL w wr B g q p bb cb v s l) (hl : LgS w1 (1 : Nat) (B : Nat) g2 q2 p bb cb v2 s2 l2) (hg : w.heap.size ≤ g2) (hq : w.heap.size ≤ q2) (hv : ∀ k, v2.ownBlock = some k → w.heap.size ≤ k) (hb : Below w.heap.size w w1) : OwL w w1 B g2 q2 p bb cb v2 s2 l2 :=
  ⟨hl, fun k hk => by
    simp only [List.mem_cons, List.not_mem_nil, or_false] at hk
    rcases hk with rfl | rfl | rfl | rfl | rfl
    · exact hg
    · exact hq
    · exact h.lo _ (by simp)
    · exact h.lo _ (by simp)
    · exact h.lo _ (by simp), hv, hb⟩
end Go.Proofs.YtjednaendedpdaaGreat
