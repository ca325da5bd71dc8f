/- Whatever numbers and whatever string come in, the call of PartKeeps returns true and leaves its arguments as they were. No condition. -/
import Derived.Test.YtaeomiedmjedgaaPartH
import Derived.Deep.DeepCutAuto
import Derived.ProofKit
import Derived.OpenShut
import Derived.ShutString
import Derived.ChangeOld
namespace Go.Proofs.Ytaeomiedmjedgaa.partKeeps
open Go Go.RowKit Go.ChangeShapes Go.WideShapes Go.ChangeAt
open Go.ChangeMaps (open_string shut_string)
set_option linter.unusedVariables false

set_option maxRecDepth 100000 in
set_option maxHeartbeats 8000000 in
theorem walk_in (x : Int) (wx : (Lit.int .i64 x).wf = true) (at_ : Int) (wa : (Lit.int .i64 at_).wf = true) (str : ByteArray) (ws : str.size ≤ maxLen) (w : World) (hin :  inB (max 1 (min x 20)) at_ str.size = true) :
    Calls Try.prog 4 #[.int .i64 x, .int .i64 at_, .string str] w fun e w' => e = .returned (.bool true) ∧ Below w.heap.size w w' := by
  have bx := bounds_i64 wx
  have ba := bounds_i64 wa
  have hss : str.size ≤ 9223372036854775807 := by unfold maxLen at ws; omega
  obtain ⟨n, hn, hn1, hn2⟩ : ∃ n : Nat, (n : Int) = max 1 (min x 20) ∧ 1 ≤ n ∧ n ≤ 20 := ⟨(max 1 (min x 20)).toNat, by omega, by omega, by omega⟩
  rw [← hn] at hin
  have HN := Box.mk hn
  clear wx wa ws hn
  have hlen : (List.replicate (512 * n) (255 : UInt8)).length = 512 * n := List.length_replicate ..
  obtain ⟨s0, hs0⟩ : ∃ s, s = FS.new (List.replicate (512 * n) 255) := ⟨_, rfl⟩
  have NW := Box.mk (fun w => new_yes n w (by unfold sizeN; rw [decide_eq_true_iff]; omega))
  unfold Made at NW
  rw [← hs0] at NW
  have ok0 : s0.Ok := by rw [hs0]; exact FS.new_ok (by rw [hlen]; unfold sizeB; rw [decide_eq_true_iff]; omega)
  have b0 : s0.b = List.replicate (512 * n) 255 := by rw [hs0]; rfl
  have n0 : s0.n.length = n := by rw [hs0]; unfold FS.new; simp only [List.length_replicate]; omega
  have st0 : s0.Still := by rw [hs0]; exact ⟨rfl, rfl⟩
  have bl0 : s0.b.length = 512 * n := by rw [b0, hlen]
  have er0 : Er s0.b 0 (512 * n) := fun k _ hk => by rw [b0, List.getElem?_replicate, if_pos (by omega)]
  have in0 : In s0.n.length 0 n := ⟨by omega, by omega, by rw [n0]; omega, by rw [n0]; omega⟩
  have PY := Box.mk (fun p bb cb w h => pnew_yes p bb cb 0 n s0 w h in0)
  have hsl : str.data.toList.length = str.size := by simp
  have WR := Box.mk (fun q p bb cb w hf h h1 h2 => pwrite_any q p bb cb 0 n s0 at_ str w hf ok0 h in0 h1 h2 ba hss)
  have h512 : IntKind.i64.wrap (512 * (n : Int)) = 512 * (n : Int) := by rw [IntKind.wrap_i64]; omega
  have hin' := hin
  rw [inB_iff] at hin'
  obtain ⟨A, rfl⟩ : ∃ A : Nat, at_ = A := ⟨at_.toNat, by omega⟩
  have hA : A + str.size ≤ 512 * n := by omega
  have wr := pw_erased str.data.toList.length s0 A str.data.toList st0 (Nat.le_refl _) (by rw [hsl, bl0]; omega) (fun k h1 h2 => er0 k (by omega) (by rw [hsl] at h2; omega))
  have epw : s0.pwrite 0 n A str.data.toList = FS.pw str.data.toList.length s0 A str.data.toList := by
    unfold FS.pwrite
    rw [hsl, hin, if_pos rfl]
    congr 1; omega
  rw [epw] at WR
  have OK1 := Box.mk (FS.pw_ok str.data.toList.length s0 A str.data.toList ok0)
  generalize FS.pw str.data.toList.length s0 A str.data.toList = r at WR wr OK1
  obtain ⟨s1, r2⟩ := r
  obtain ⟨w1, w2, w3, w4, w5⟩ := wr
  dsimp only at w1 w2 w3 w4 w5 WR OK1
  subst w1
  rw [hsl] at w5
  have ok1 := OK1.out.1
  have n1 : s1.n.length = n := OK1.out.2.trans n0
  have bl1 : s1.b.length = 512 * n := w4.trans bl0
  have in1 : In s1.n.length 0 n := ⟨by omega, by omega, by rw [n1]; omega, by rw [n1]; omega⟩
  obtain ⟨c, hc⟩ : ∃ c, c = A + str.size := ⟨_, rfl⟩
  obtain ⟨d, hd⟩ : ∃ d, d = 512 * n - c := ⟨_, rfl⟩
  obtain ⟨e, he⟩ : ∃ e, e = 512 * n - A := ⟨_, rfl⟩
  have RD := Box.mk (fun q p bb cb w hf h => pread_any q p bb cb 0 n s1 A str.size w hf ok1 h in1 (by omega) (by omega))
  rw [read_back w2 hin w5] at RD
  have C1 := Box.mk (fun q p bb cb w hf h => pclean_any q p bb cb 0 n s1 (0 : Nat) A w hf ok1 h in1 (by omega) (by omega))
  rw [clean_er w2 0 A (by rw [bl1]; omega) (by omega) (fun k h1 h2 => by rw [w5, if_neg (by omega)]; exact er0 k (by omega) (by omega))] at C1
  have C2 := Box.mk (fun q p bb cb w hf h => pclean_any q p bb cb 0 n s1 c d w hf ok1 h in1 (by omega) (by omega))
  rw [clean_er w2 c d (by rw [bl1]; omega) (by omega) (fun k h1 h2 => by rw [w5, if_neg (by omega)]; exact er0 k (by omega) (by omega))] at C2
  have k1 : IntKind.i64.wrap ((A : Int) + (str.size : Int)) = (c : Int) := by rw [IntKind.wrap_i64]; omega
  have k2 : IntKind.i64.wrap (512 * (n : Int) - (A : Int)) = (e : Int) := by rw [IntKind.wrap_i64]; omega
  have k3 : IntKind.i64.wrap ((e : Int) - (str.size : Int)) = (d : Int) := by rw [IntKind.wrap_i64]; omega
  have f1 : decide ((A : Int) < 0) = false := by rw [decide_eq_false_iff_not]; omega
  have f2 : decide (512 * (n : Int) < (A : Int)) = false := by rw [decide_eq_false_iff_not]; omega
  have f3 : decide (e < str.size) = false := by rw [decide_eq_false_iff_not]; omega
  have q1 : (str.toList == str.toList) = true := by simp
  have q2 : (str.toList != str.toList) = false := by simp
  have ER := Box.mk (fun (s : FS) (hs : s.Ok) (hn : s.n.length = n) q p bb cb (k : Nat) w hf h => perase_any q p bb cb 0 n s k w hf hs h ⟨by omega, by omega, by rw [hn]; omega, by rw [hn]; omega⟩)
  have CE := Box.mk (fun (s : FS) (hs : s.Ok) (hn : s.n.length = n) q p bb cb w hf h => pclean_any q p bb cb 0 n s (0 : Nat) (512 * n : Nat) w hf hs h ⟨by omega, by omega, by rw [hn]; omega, by rw [hn]; omega⟩ (by omega) (by omega))
  have S1 := Box.mk (show s1.Ok ∧ s1.Still ∧ s1.n.length = n ∧ s1.b.length = 512 * n ∧ Er s1.b 0 (512 * 0) from ⟨ok1, w2, n1, bl1, fun k h1 h2 => by omega⟩)
  have HB := Box.mk (show 1 ≤ n ∧ n ≤ 20 from ⟨hn1, hn2⟩)
  clear ok1 w2 w3 w4 w5 n1 bl1 in1 hc hd he hin hin' hA hsl epw ba bx hlen hs0 ok0 b0 n0 st0 bl0 er0 in0 hss hn1 hn2 OK1
  go_enter Try.func4, Try.ntmps4
  go_upto_region 1 with (fail)
  go_cut [7] (fun v wx => v = .int .i64 (n : Nat) ∧ w = wx)
  case first =>
    go_wp2_with fail
    all_goals
      go_meet
      exact ⟨int_congr (by have := HN.out; omega), rfl⟩
  case rest =>
    obtain ⟨rfl, rfl⟩ := hcut
    go_wp2_with fail
    refine (NW.out _).mono ?_
    rintro e w1 ⟨p, bb, cb, rfl, hf, hp, hbb, hcb, b1⟩
    have HF := Box.mk hf; have B1 := Box.mk b1
    have WP : Box (w.heap.size ≤ p ∧ w.heap.size ≤ bb ∧ w.heap.size ≤ cb) := ⟨⟨hp, hbb, hcb⟩⟩
    clear hf hp hbb hcb b1
    go_wp2_with fail
    refine (PY.out p bb cb _ HF.out).mono ?_
    rintro e w4 ⟨q, rfl, pa, hq, b4⟩
    have PA := Box.mk pa; have hl := HF.out.lt
    have NQ : Box (q ≠ p ∧ q ≠ bb ∧ q ≠ cb) := ⟨by omega⟩
    have HF4 := Box.mk (HF.out.upd (Upd.of_below b4) (S := []) (by simp) (by simp) (by simp)); have B4 := Box.mk (B1.out.trans (b4.mono B1.out.size))
    clear pa b4 hl HF B1 hq
    go_wp2_with fail
    refine (WR.out q p bb cb _ HF4.out PA.out NQ.out.2.1 NQ.out.1).mono ?_
    rintro e w6 ⟨rfl, hf6, hu6⟩
    have PA6 := Box.mk (PA.out.upd hu6 (by have := NQ.out; simp [this.1, this.2.1])); have HF6 := Box.mk hf6
    have B6 := Box.mk (Upd.below B4.out hu6 (by intro i hi; have := WP.out; simp at hi; omega) B4.out.size)
    clear hf6 hu6 PA HF4 B4
    go_wp2_with fail
    refine (RD.out q p bb cb _ HF6.out PA6.out).mono ?_
    rintro e w7 ⟨rfl, rfl⟩
    go_wp2_with fail
    refine (C1.out q p bb cb _ HF6.out PA6.out).mono ?_
    rintro e w7 ⟨rfl, rfl⟩
    go_wp2_with fail
    refine (C2.out q p bb cb _ HF6.out PA6.out).mono ?_
    rintro e w7 ⟨rfl, rfl⟩
    go_wp2_with fail
    clear f1 f2 f3 k1 k2 k3 RD C1 C2 WR PY NW
    go_loopw [18] (fun i wr => ∃ k : Nat, k ≤ n ∧ i = .int .i64 k ∧ ∃ s : FS, (s.Ok ∧ s.Still ∧ s.n.length = n ∧ s.b.length = 512 * n ∧ Er s.b 0 (512 * k)) ∧ Fl 75 wr p bb cb s ∧ Pa wr q p 0 n ∧ Below w.heap.size w wr) (fun i _ => n - (intOf i).toNat)
    case atStart => exact ⟨0, by omega, rfl, s1, S1.out, HF6.out, PA6.out, B6.out⟩
    case round =>
      clear S1 HF6 PA6 B6
      obtain ⟨k, hk, rfl, s, hs, hf, hpa, hbel⟩ := hrel
      have HS := Box.mk hs; have HF := Box.mk hf; have HP := Box.mk hpa; have HBL := Box.mk hbel
      clear hs hf hpa hbel
      by_cases hlt : k < n
      · have hkI : (k : Int) < (n : Int) := by omega
        have hk20 : (k : Int) < 20 := by have := HB.out; omega
        obtain ⟨a1, a2, a3, a4, a5⟩ := HS.out
        obtain ⟨e1, e2, e3, e4⟩ := still_erase a2 k (by omega)
        have epe : s.perase 0 n k = s.erase k := by
          unfold FS.perase; rw [if_pos (by omega), Int.zero_add]
        have EK := Box.mk (ER.out s a1 a3 q p bb cb k)
        have ok2 := (FS.perase_ok a1 0 n k).1
        rw [epe] at EK ok2
        have H2 : Box ((s.erase k).1.Ok ∧ (s.erase k).1.Still ∧ (s.erase k).1.n.length = n ∧ (s.erase k).1.b.length = 512 * n ∧ Er (s.erase k).1.b 0 (512 * (k + 1))) := ⟨⟨ok2, e2, e3.trans a3, by rw [e4, eraseUpto_length]; exact a4, by rw [e4]; exact erase_er a5 (by omega)⟩⟩
        rw [e1] at EK
        generalize (s.erase k).1 = s2 at EK H2
        clear a1 a2 a3 a4 a5 e1 e2 e3 e4 epe ok2 hlt
        go_wp2_with fail
        refine (EK.out _ HF.out HP.out).mono ?_
        rintro e w8 ⟨rfl, hf8, hu8⟩
        have HF8 := Box.mk hf8; have HP8 := Box.mk (HP.out.upd hu8 (by have := NQ.out; simp [this.1, this.2.1, this.2.2]))
        have HB8 := Box.mk (Upd.below HBL.out hu8 (by intro i hi; have := WP.out; simp at hi; omega) HBL.out.size)
        clear hf8 hu8 HF HP HBL
        go_wp2_with fail
        exact ⟨⟨k + 1, by omega, by go_num, s2, H2.out, HF8.out, HP8.out, HB8.out⟩, by simp [intOf]; omega⟩
      · obtain rfl : k = n := by omega
        obtain ⟨a1, a2, a3, a4, a5⟩ := HS.out
        have CK := Box.mk (CE.out s a1 a3 q p bb cb)
        rw [clean_er a2 0 (512 * k) (by rw [a4]; omega) (by omega) (by simpa using a5)] at CK
        have hkc : ((512 * k : Nat) : Int) = 512 * (k : Int) := by omega
        rw [hkc] at CK
        clear a1 a2 a3 a4 a5 hlt hk hkc
        go_wp2_with fail
        refine (CK.out _ HF.out HP.out).mono ?_
        rintro e w8 ⟨rfl, rfl⟩
        go_wp2_with fail
        refine (pfixed_any _).mono ?_
        rintro e w9 ⟨rfl, b9⟩
        have B9 := Box.mk (HBL.out.trans (b9.mono HBL.out.size))
        clear b9
        go_wp2_with fail
        go_ret
        exact ⟨rfl, B9.out⟩
set_option maxRecDepth 100000 in
set_option maxHeartbeats 8000000 in
theorem walk_o1 (x : Int) (wx : (Lit.int .i64 x).wf = true) (at_ : Int) (wa : (Lit.int .i64 at_).wf = true) (str : ByteArray) (ws : str.size ≤ maxLen) (w : World) (hin : ¬ inB (max 1 (min x 20)) at_ str.size = true) (g1 : at_ < 0) :
    Calls Try.prog 4 #[.int .i64 x, .int .i64 at_, .string str] w fun e w' => e = .returned (.bool true) ∧ Below w.heap.size w w' := by
  have bx := bounds_i64 wx
  have ba := bounds_i64 wa
  have hss : str.size ≤ 9223372036854775807 := by unfold maxLen at ws; omega
  obtain ⟨n, hn, hn1, hn2⟩ : ∃ n : Nat, (n : Int) = max 1 (min x 20) ∧ 1 ≤ n ∧ n ≤ 20 := ⟨(max 1 (min x 20)).toNat, by omega, by omega, by omega⟩
  rw [← hn] at hin
  have HN := Box.mk hn
  clear wx wa ws hn
  have hlen : (List.replicate (512 * n) (255 : UInt8)).length = 512 * n := List.length_replicate ..
  obtain ⟨s0, hs0⟩ : ∃ s, s = FS.new (List.replicate (512 * n) 255) := ⟨_, rfl⟩
  have NW := Box.mk (fun w => new_yes n w (by unfold sizeN; rw [decide_eq_true_iff]; omega))
  unfold Made at NW
  rw [← hs0] at NW
  have ok0 : s0.Ok := by rw [hs0]; exact FS.new_ok (by rw [hlen]; unfold sizeB; rw [decide_eq_true_iff]; omega)
  have b0 : s0.b = List.replicate (512 * n) 255 := by rw [hs0]; rfl
  have n0 : s0.n.length = n := by rw [hs0]; unfold FS.new; simp only [List.length_replicate]; omega
  have st0 : s0.Still := by rw [hs0]; exact ⟨rfl, rfl⟩
  have bl0 : s0.b.length = 512 * n := by rw [b0, hlen]
  have er0 : Er s0.b 0 (512 * n) := fun k _ hk => by rw [b0, List.getElem?_replicate, if_pos (by omega)]
  have in0 : In s0.n.length 0 n := ⟨by omega, by omega, by rw [n0]; omega, by rw [n0]; omega⟩
  have PY := Box.mk (fun p bb cb w h => pnew_yes p bb cb 0 n s0 w h in0)
  have hsl : str.data.toList.length = str.size := by simp
  have WR := Box.mk (fun q p bb cb w hf h h1 h2 => pwrite_any q p bb cb 0 n s0 at_ str w hf ok0 h in0 h1 h2 ba hss)
  have h512 : IntKind.i64.wrap (512 * (n : Int)) = 512 * (n : Int) := by rw [IntKind.wrap_i64]; omega
  have hin' : inB n at_ str.size = false := by simpa using hin
  have epw : s0.pwrite 0 n at_ str.data.toList = (s0, 121) := by unfold FS.pwrite; rw [hsl, hin']; rfl
  rw [epw] at WR
  have hio : ¬ (0 ≤ at_ ∧ 0 ≤ (str.size : Int) ∧ at_ + str.size ≤ 512 * (n : Int)) := fun h => hin ((inB_iff _ _ _).2 h)
  have f1 : decide (at_ < 0) = true := by simpa using g1
  clear hio hin hin' hsl epw ba bx hlen hs0 ok0 b0 n0 st0 bl0 er0 in0 hss hn1 hn2 g1
  go_enter Try.func4, Try.ntmps4
  go_upto_region 1 with (fail)
  go_cut [7] (fun v wx => v = .int .i64 (n : Nat) ∧ w = wx)
  case first =>
    go_wp2_with fail
    all_goals
      go_meet
      exact ⟨int_congr (by have := HN.out; omega), rfl⟩
  case rest =>
    obtain ⟨rfl, rfl⟩ := hcut
    go_wp2_with fail
    refine (NW.out _).mono ?_
    rintro e w1 ⟨p, bb, cb, rfl, hf, hp, hbb, hcb, b1⟩
    have HF := Box.mk hf; have B1 := Box.mk b1
    have WP : Box (w.heap.size ≤ p ∧ w.heap.size ≤ bb ∧ w.heap.size ≤ cb) := ⟨⟨hp, hbb, hcb⟩⟩
    clear hf hp hbb hcb b1
    go_wp2_with fail
    refine (PY.out p bb cb _ HF.out).mono ?_
    rintro e w4 ⟨q, rfl, pa, hq, b4⟩
    have PA := Box.mk pa; have hl := HF.out.lt
    have NQ : Box (q ≠ p ∧ q ≠ bb ∧ q ≠ cb) := ⟨by omega⟩
    have HF4 := Box.mk (HF.out.upd (Upd.of_below b4) (S := []) (by simp) (by simp) (by simp)); have B4 := Box.mk (B1.out.trans (b4.mono B1.out.size))
    clear pa b4 hl HF B1 hq
    go_wp2_with fail
    refine (WR.out q p bb cb _ HF4.out PA.out NQ.out.2.1 NQ.out.1).mono ?_
    rintro e w6 ⟨rfl, hf6, hu6⟩
    have PA6 := Box.mk (PA.out.upd hu6 (by have := NQ.out; simp [this.1, this.2.1])); have HF6 := Box.mk hf6
    have B6 := Box.mk (Upd.below B4.out hu6 (by intro i hi; have := WP.out; simp at hi; omega) B4.out.size)
    clear hf6 hu6 PA HF4 B4
    go_wp2_with fail
    refine (pfixed_any _).mono ?_
    rintro e w9 ⟨rfl, b9⟩
    have B9 := Box.mk (B6.out.trans (b9.mono B6.out.size))
    clear b9
    go_wp2_with fail
    go_ret
    exact ⟨rfl, B9.out⟩
set_option maxRecDepth 100000 in
set_option maxHeartbeats 8000000 in
theorem walk_o2 (x : Int) (wx : (Lit.int .i64 x).wf = true) (at_ : Int) (wa : (Lit.int .i64 at_).wf = true) (str : ByteArray) (ws : str.size ≤ maxLen) (w : World) (hin : ¬ inB (max 1 (min x 20)) at_ str.size = true) (g1 : ¬ at_ < 0) (g2 : 512 * (max 1 (min x 20)) < at_) :
    Calls Try.prog 4 #[.int .i64 x, .int .i64 at_, .string str] w fun e w' => e = .returned (.bool true) ∧ Below w.heap.size w w' := by
  have bx := bounds_i64 wx
  have ba := bounds_i64 wa
  have hss : str.size ≤ 9223372036854775807 := by unfold maxLen at ws; omega
  obtain ⟨n, hn, hn1, hn2⟩ : ∃ n : Nat, (n : Int) = max 1 (min x 20) ∧ 1 ≤ n ∧ n ≤ 20 := ⟨(max 1 (min x 20)).toNat, by omega, by omega, by omega⟩
  rw [← hn] at hin g2
  have HN := Box.mk hn
  clear wx wa ws hn
  have hlen : (List.replicate (512 * n) (255 : UInt8)).length = 512 * n := List.length_replicate ..
  obtain ⟨s0, hs0⟩ : ∃ s, s = FS.new (List.replicate (512 * n) 255) := ⟨_, rfl⟩
  have NW := Box.mk (fun w => new_yes n w (by unfold sizeN; rw [decide_eq_true_iff]; omega))
  unfold Made at NW
  rw [← hs0] at NW
  have ok0 : s0.Ok := by rw [hs0]; exact FS.new_ok (by rw [hlen]; unfold sizeB; rw [decide_eq_true_iff]; omega)
  have b0 : s0.b = List.replicate (512 * n) 255 := by rw [hs0]; rfl
  have n0 : s0.n.length = n := by rw [hs0]; unfold FS.new; simp only [List.length_replicate]; omega
  have st0 : s0.Still := by rw [hs0]; exact ⟨rfl, rfl⟩
  have bl0 : s0.b.length = 512 * n := by rw [b0, hlen]
  have er0 : Er s0.b 0 (512 * n) := fun k _ hk => by rw [b0, List.getElem?_replicate, if_pos (by omega)]
  have in0 : In s0.n.length 0 n := ⟨by omega, by omega, by rw [n0]; omega, by rw [n0]; omega⟩
  have PY := Box.mk (fun p bb cb w h => pnew_yes p bb cb 0 n s0 w h in0)
  have hsl : str.data.toList.length = str.size := by simp
  have WR := Box.mk (fun q p bb cb w hf h h1 h2 => pwrite_any q p bb cb 0 n s0 at_ str w hf ok0 h in0 h1 h2 ba hss)
  have h512 : IntKind.i64.wrap (512 * (n : Int)) = 512 * (n : Int) := by rw [IntKind.wrap_i64]; omega
  have hin' : inB n at_ str.size = false := by simpa using hin
  have epw : s0.pwrite 0 n at_ str.data.toList = (s0, 121) := by unfold FS.pwrite; rw [hsl, hin']; rfl
  rw [epw] at WR
  have hio : ¬ (0 ≤ at_ ∧ 0 ≤ (str.size : Int) ∧ at_ + str.size ≤ 512 * (n : Int)) := fun h => hin ((inB_iff _ _ _).2 h)
  have f1 : decide (at_ < 0) = false := by simpa using g1
  have f2 : decide (512 * (n : Int) < at_) = true := by simpa using g2
  clear hio hin hin' hsl epw ba bx hlen hs0 ok0 b0 n0 st0 bl0 er0 in0 hss hn1 hn2 g1 g2
  go_enter Try.func4, Try.ntmps4
  go_upto_region 1 with (fail)
  go_cut [7] (fun v wx => v = .int .i64 (n : Nat) ∧ w = wx)
  case first =>
    go_wp2_with fail
    all_goals
      go_meet
      exact ⟨int_congr (by have := HN.out; omega), rfl⟩
  case rest =>
    obtain ⟨rfl, rfl⟩ := hcut
    go_wp2_with fail
    refine (NW.out _).mono ?_
    rintro e w1 ⟨p, bb, cb, rfl, hf, hp, hbb, hcb, b1⟩
    have HF := Box.mk hf; have B1 := Box.mk b1
    have WP : Box (w.heap.size ≤ p ∧ w.heap.size ≤ bb ∧ w.heap.size ≤ cb) := ⟨⟨hp, hbb, hcb⟩⟩
    clear hf hp hbb hcb b1
    go_wp2_with fail
    refine (PY.out p bb cb _ HF.out).mono ?_
    rintro e w4 ⟨q, rfl, pa, hq, b4⟩
    have PA := Box.mk pa; have hl := HF.out.lt
    have NQ : Box (q ≠ p ∧ q ≠ bb ∧ q ≠ cb) := ⟨by omega⟩
    have HF4 := Box.mk (HF.out.upd (Upd.of_below b4) (S := []) (by simp) (by simp) (by simp)); have B4 := Box.mk (B1.out.trans (b4.mono B1.out.size))
    clear pa b4 hl HF B1 hq
    go_wp2_with fail
    refine (WR.out q p bb cb _ HF4.out PA.out NQ.out.2.1 NQ.out.1).mono ?_
    rintro e w6 ⟨rfl, hf6, hu6⟩
    have PA6 := Box.mk (PA.out.upd hu6 (by have := NQ.out; simp [this.1, this.2.1])); have HF6 := Box.mk hf6
    have B6 := Box.mk (Upd.below B4.out hu6 (by intro i hi; have := WP.out; simp at hi; omega) B4.out.size)
    clear hf6 hu6 PA HF4 B4
    go_wp2_with fail
    refine (pfixed_any _).mono ?_
    rintro e w9 ⟨rfl, b9⟩
    have B9 := Box.mk (B6.out.trans (b9.mono B6.out.size))
    clear b9
    go_wp2_with fail
    go_ret
    exact ⟨rfl, B9.out⟩
set_option maxRecDepth 100000 in
set_option maxHeartbeats 8000000 in
theorem walk_o3 (x : Int) (wx : (Lit.int .i64 x).wf = true) (at_ : Int) (wa : (Lit.int .i64 at_).wf = true) (str : ByteArray) (ws : str.size ≤ maxLen) (w : World) (hin : ¬ inB (max 1 (min x 20)) at_ str.size = true) (g1 : ¬ at_ < 0) (g2 : ¬ 512 * (max 1 (min x 20)) < at_) :
    Calls Try.prog 4 #[.int .i64 x, .int .i64 at_, .string str] w fun e w' => e = .returned (.bool true) ∧ Below w.heap.size w w' := by
  have bx := bounds_i64 wx
  have ba := bounds_i64 wa
  have hss : str.size ≤ 9223372036854775807 := by unfold maxLen at ws; omega
  obtain ⟨n, hn, hn1, hn2⟩ : ∃ n : Nat, (n : Int) = max 1 (min x 20) ∧ 1 ≤ n ∧ n ≤ 20 := ⟨(max 1 (min x 20)).toNat, by omega, by omega, by omega⟩
  rw [← hn] at hin g2
  have HN := Box.mk hn
  clear wx wa ws hn
  have hlen : (List.replicate (512 * n) (255 : UInt8)).length = 512 * n := List.length_replicate ..
  obtain ⟨s0, hs0⟩ : ∃ s, s = FS.new (List.replicate (512 * n) 255) := ⟨_, rfl⟩
  have NW := Box.mk (fun w => new_yes n w (by unfold sizeN; rw [decide_eq_true_iff]; omega))
  unfold Made at NW
  rw [← hs0] at NW
  have ok0 : s0.Ok := by rw [hs0]; exact FS.new_ok (by rw [hlen]; unfold sizeB; rw [decide_eq_true_iff]; omega)
  have b0 : s0.b = List.replicate (512 * n) 255 := by rw [hs0]; rfl
  have n0 : s0.n.length = n := by rw [hs0]; unfold FS.new; simp only [List.length_replicate]; omega
  have st0 : s0.Still := by rw [hs0]; exact ⟨rfl, rfl⟩
  have bl0 : s0.b.length = 512 * n := by rw [b0, hlen]
  have er0 : Er s0.b 0 (512 * n) := fun k _ hk => by rw [b0, List.getElem?_replicate, if_pos (by omega)]
  have in0 : In s0.n.length 0 n := ⟨by omega, by omega, by rw [n0]; omega, by rw [n0]; omega⟩
  have PY := Box.mk (fun p bb cb w h => pnew_yes p bb cb 0 n s0 w h in0)
  have hsl : str.data.toList.length = str.size := by simp
  have WR := Box.mk (fun q p bb cb w hf h h1 h2 => pwrite_any q p bb cb 0 n s0 at_ str w hf ok0 h in0 h1 h2 ba hss)
  have h512 : IntKind.i64.wrap (512 * (n : Int)) = 512 * (n : Int) := by rw [IntKind.wrap_i64]; omega
  have hin' : inB n at_ str.size = false := by simpa using hin
  have epw : s0.pwrite 0 n at_ str.data.toList = (s0, 121) := by unfold FS.pwrite; rw [hsl, hin']; rfl
  rw [epw] at WR
  have hio : ¬ (0 ≤ at_ ∧ 0 ≤ (str.size : Int) ∧ at_ + str.size ≤ 512 * (n : Int)) := fun h => hin ((inB_iff _ _ _).2 h)
  have f1 : decide (at_ < 0) = false := by simpa using g1
  have f2 : decide (512 * (n : Int) < at_) = false := by simpa using g2
  have k2 : IntKind.i64.wrap (512 * (n : Int) - at_) = 512 * (n : Int) - at_ := by rw [IntKind.wrap_i64]; omega
  have f3 : decide (512 * (n : Int) - at_ < (str.size : Int)) = true := by rw [decide_eq_true_eq]; omega
  clear hio hin hin' hsl epw ba bx hlen hs0 ok0 b0 n0 st0 bl0 er0 in0 hss hn1 hn2 g1 g2
  go_enter Try.func4, Try.ntmps4
  go_upto_region 1 with (fail)
  go_cut [7] (fun v wx => v = .int .i64 (n : Nat) ∧ w = wx)
  case first =>
    go_wp2_with fail
    all_goals
      go_meet
      exact ⟨int_congr (by have := HN.out; omega), rfl⟩
  case rest =>
    obtain ⟨rfl, rfl⟩ := hcut
    go_wp2_with fail
    refine (NW.out _).mono ?_
    rintro e w1 ⟨p, bb, cb, rfl, hf, hp, hbb, hcb, b1⟩
    have HF := Box.mk hf; have B1 := Box.mk b1
    have WP : Box (w.heap.size ≤ p ∧ w.heap.size ≤ bb ∧ w.heap.size ≤ cb) := ⟨⟨hp, hbb, hcb⟩⟩
    clear hf hp hbb hcb b1
    go_wp2_with fail
    refine (PY.out p bb cb _ HF.out).mono ?_
    rintro e w4 ⟨q, rfl, pa, hq, b4⟩
    have PA := Box.mk pa; have hl := HF.out.lt
    have NQ : Box (q ≠ p ∧ q ≠ bb ∧ q ≠ cb) := ⟨by omega⟩
    have HF4 := Box.mk (HF.out.upd (Upd.of_below b4) (S := []) (by simp) (by simp) (by simp)); have B4 := Box.mk (B1.out.trans (b4.mono B1.out.size))
    clear pa b4 hl HF B1 hq
    go_wp2_with fail
    refine (WR.out q p bb cb _ HF4.out PA.out NQ.out.2.1 NQ.out.1).mono ?_
    rintro e w6 ⟨rfl, hf6, hu6⟩
    have PA6 := Box.mk (PA.out.upd hu6 (by have := NQ.out; simp [this.1, this.2.1])); have HF6 := Box.mk hf6
    have B6 := Box.mk (Upd.below B4.out hu6 (by intro i hi; have := WP.out; simp at hi; omega) B4.out.size)
    clear hf6 hu6 PA HF4 B4
    go_wp2_with fail
    refine (pfixed_any _).mono ?_
    rintro e w9 ⟨rfl, b9⟩
    have B9 := Box.mk (B6.out.trans (b9.mono B6.out.size))
    clear b9
    go_wp2_with fail
    go_ret
    exact ⟨rfl, B9.out⟩
theorem walk (x : Int) (wx : (Lit.int .i64 x).wf = true) (at_ : Int) (wa : (Lit.int .i64 at_).wf = true) (str : ByteArray) (ws : str.size ≤ maxLen) (w : World) :
    Calls Try.prog 4 #[.int .i64 x, .int .i64 at_, .string str] w fun e w' => e = .returned (.bool true) ∧ Below w.heap.size w w' := by
  by_cases hin : inB (max 1 (min x 20)) at_ str.size = true
  · exact walk_in x wx at_ wa str ws w hin
  · by_cases g1 : at_ < 0
    · exact walk_o1 x wx at_ wa str ws w hin g1
    · by_cases g2 : 512 * (max 1 (min x 20)) < at_
      · exact walk_o2 x wx at_ wa str ws w hin g1 g2
      · exact walk_o3 x wx at_ wa str ws w hin g1 g2
theorem own : ownKnob Try.prog.godebug = none := by kernel_rfl
theorem laidOut : laidOutB Try.prog = true := by kernel_rfl
set_option maxRecDepth 100000 in
theorem lifted (os : Os) (started : os.Started) (H : Type) (enc : TypeId × Value → H) :
    ReturnsInHanded {} Try.checked os 4 .any (Rows.partKeepsSpec.pre6 enc Try.prog Try.f4 Rows.partKeepsRow.domain false) (Rows.partKeepsSpec.post enc Try.prog Try.f4 false true false false) := by
  refine returnsInHanded_of_change (C := Try.checked) own started (by kernel_rfl) Try.func4
    (ChangeSpec.witness6 (enc := enc) (C := Try.checked) false ⟨#[], #[.int .i64 0, .int .i64 0, .string ⟨#[]⟩], []⟩ 8 (by kernel_rfl) (by kernel_rfl) (by kernel_rfl) (by kernel_rfl)) ?_
  intro W base args ds gs before hval0 hW hcnd _
  have hval : ∀ (j : Nat) t v, Try.f4.params[j]? = some t → args[j]? = some v → Value.okWide Try.prog W .any base t v := hval0
  have hW' := hW
  obtain ⟨p, q, hA0, hV, rfl, hfz, hnd⟩ := hW
  have hA : DataW.TrodAll enc Try.prog W 0 (fun _ => true) true Try.f4.params.toList args.toList ds p := hA0
  rw [Try.params4] at hA hval
  obtain ⟨v0, vs0, d0, ds0, p0, q0, hargs, rfl, rfl, h0, r0⟩ := trodAll_cons hA
  obtain ⟨v1, vs1, d1, ds1, p1, q1, rfl, rfl, rfl, h1, r1⟩ := trodAll_cons r0
  obtain ⟨v2, vs2, d2, ds2, p2, q2, rfl, rfl, rfl, h2, r2⟩ := trodAll_cons r1
  obtain ⟨rfl, rfl, rfl⟩ := trodAll_nil r2
  obtain rfl : args = #[v0, v1, v2] := by cases args; simp_all
  obtain ⟨rfl, rfl⟩ := trodVars_none hV
  obtain ⟨s0, rfl, rfl, rfl, ws0⟩ := open_int Try.underlying3 (hval 0 3 v0 rfl rfl) h0
  obtain ⟨s1, rfl, rfl, rfl, ws1⟩ := open_int Try.underlying3 (hval 1 3 v1 rfl rfl) h1
  obtain ⟨s2, rfl, rfl, rfl, ws2⟩ := open_string Try.underlying9 (hval 2 9 v2 rfl rfl) h2
  clear hA0 hval0
  refine (walk s0 ws0 s1 ws1 s2 ws2 W).mono fun e W' ⟨he, bel⟩ => ?_
  subst he
  exact ⟨_, rfl, _, _, _, [], _, [], hW', trodAll_mk1 (shut_bool Try.underlying4 _), (trodAll_cons_mk (shut_int Try.underlying3 ws0) (trodAll_cons_mk (shut_int Try.underlying3 ws1) (trodAll_cons_mk (shut_string Try.underlying9 ws2) trodAll_mk0))), rfl, bel.frame _, fun h => by cases h⟩

theorem proved : Rows.PartKeepsSaid :=
  OpenClaim.holds_of_wide 4 Try.f4 rfl rfl rfl rfl rfl rfl rfl ⟨rfl, rfl, rfl, rfl, rfl⟩ rfl rfl rfl rfl rfl (by kernel_rfl) Try.func4 (by kernel_rfl)
    (of_decide_eq_true (by kernel_rfl)) (by unfold Func.isWrapper; first | (rw [if_pos (by decide +kernel)]; kernel_rfl) | (rw [if_neg (by decide +kernel)]; exact ⟨rfl, rfl⟩))
    (fun os started H enc _ => lifted os started H enc)
#print axioms proved
end Go.Proofs.Ytaeomiedmjedgaa.partKeeps
