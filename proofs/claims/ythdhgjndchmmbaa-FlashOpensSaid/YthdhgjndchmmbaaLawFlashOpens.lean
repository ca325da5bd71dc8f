/- FlashOpens. No condition. -/
import Derived.Test.YthdhgjndchmmbaaFlashRefD
import Derived.Test.YthdhgjndchmmbaaArgs
import Derived.Deep.DeepCutAuto
import Derived.Deep.RegionWith
namespace Go.Proofs.Ythdhgjndchmmbaa.flashOpens
open Go Go.RowKit Go.ChangeShapes Go.WideShapes Go.ChangeAt
open Go.ChangeMaps (open_string shut_string)
set_option linter.unusedVariables false

theorem quiet_calls {P : Program} {f : FuncId} {args : Array Value} {w : World} {n : Nat} {v : Value}
    (h : Calls P f args (w.drewN n) fun e w' => e = .returned v ∧ w.drewN n = w') : Calls P f args (w.drewN n) fun e w'' => e = .returned v ∧ ∃ m, w'' = w.drewN m :=
  h.mono fun _ _ ⟨he, hm⟩ => ⟨he, n, hm.symm⟩
@[irreducible] def zs (N : Nat) : ByteArray := ⟨(List.replicate N 0).toArray⟩
theorem zs_size (N : Nat) : (zs N).size = N := by unfold zs; show (List.replicate N (0 : UInt8)).toArray.size = N; simp
theorem upd_below {a b : World} (h : Below a.heap.size a b) : Upd [] a b := Upd.of_below h

set_option maxRecDepth 100000 in
set_option maxHeartbeats 8000000 in
theorem walk (n : Int) (wn : (Lit.int .i64 n).wf = true) (k : Int) (wk : (Lit.int .i64 k).wf = true) (w : World) :
    Calls Try.prog 3 #[.int .i64 n, .int .i64 k] w fun e w' => e = .returned (.bool true) ∧ Below w.heap.size w w' := by
  have bn := bounds_i64 wn
  have bk := bounds_i64 wk
  clear wn wk
  obtain ⟨N, hN, hN2⟩ : ∃ N : Nat, (N : Int) = max 0 (min n 131584) ∧ N ≤ 131584 := ⟨(max 0 (min n 131584)).toNat, by omega, by omega⟩
  have HN := Box.mk hN; clear hN
  go_enter Try.func3, Try.ntmps3
  go_upto_region 1 with (fail)
  go_cut [0] (fun v wx => v = .int .i64 N ∧ w = wx)
  case first =>
    go_wp2_with fail
    all_goals
      go_meet
      exact ⟨int_congr (by have := HN.out; omega), rfl⟩
  case rest =>
    obtain ⟨rfl, rfl⟩ := hcut
    have hmk := fun w => make_bytes N N rfl (by omega) w
    have hcv0 := fun w => zeros_str N w
    simp only [show (⟨(List.replicate N (0 : UInt8)).toArray⟩ : ByteArray) = zs N from by unfold zs; rfl] at hcv0
    by_cases hs : sizeB N = true
    · have O1 := Box.mk (fun w => open_yes (zs N) w (by rw [zs_size]; exact hs))
      have O2 := Box.mk (fun w => ropen_yes (zs N) w (by rw [zs_size]; exact hs))
      have B1 : Box (∀ p bb cb w, Fl 63 w p bb cb (FS.new (zs N).data.toList) → Calls Try.prog 14 #[.pointer (some ⟨p, 0, none⟩)] w fun e w' => e = .returned (.int .i64 ((N : Int) / 512)) ∧ w = w') :=
        ⟨fun p bb cb w h => by have := blocks_any p bb cb _ w h; rw [show ((FS.new (zs N).data.toList).n.length : Int) = (N : Int) / 512 from by have := zs_size N; simp only [FS.new, List.length_replicate, Array.length_toList]; rw [show (zs N).data.size = N from this]; omega] at this; exact this⟩
      have S1 : Box (∀ p bb cb w, Fl 63 w p bb cb (FS.new (zs N).data.toList) → Calls Try.prog 15 #[.pointer (some ⟨p, 0, none⟩)] w fun e w' => e = .returned (.int .i64 0) ∧ w = w') :=
        ⟨fun p bb cb w h => steps_any p bb cb _ w h⟩
      have D1 : Box (∀ p bb cb w, Fl 63 w p bb cb (FS.new (zs N).data.toList) → Calls Try.prog 16 #[.pointer (some ⟨p, 0, none⟩)] w fun e w' => e = .returned (.bool false) ∧ w = w') :=
        ⟨fun p bb cb w h => dead_any p bb cb _ w h⟩
      clear hs
      by_cases hk : sizeN k = true
      · obtain ⟨K, rfl⟩ : ∃ K : Nat, k = K := ⟨k.toNat, by unfold sizeN at hk; have := of_decide_eq_true hk; omega⟩
        have hk1 : 1 ≤ (K : Int) ∧ (K : Int) ≤ 256 := by unfold sizeN at hk; exact of_decide_eq_true hk
        have N1 := Box.mk (fun w => new_yes K w hk)
        have N2 := Box.mk (fun w => rnew_yes K w hk)
        obtain ⟨L, hL⟩ : ∃ L, L = List.replicate (512 * K) (255 : UInt8) := ⟨_, rfl⟩
        have hLl : L.length = 512 * K := by rw [hL, List.length_replicate]
        simp only [← hL] at N1 N2
        have B2 : Box (∀ p bb cb w, Fl 63 w p bb cb (FS.new L) → Calls Try.prog 14 #[.pointer (some ⟨p, 0, none⟩)] w fun e w' => e = .returned (.int .i64 K) ∧ w = w') :=
          ⟨fun p bb cb w h => by have := blocks_any p bb cb _ w h; rw [show ((FS.new L).n.length : Int) = (K : Int) from by simp only [FS.new, List.length_replicate, hLl]; omega] at this; exact this⟩
        have I2 : Box (∀ p bb cb w, Fl 63 w p bb cb (FS.new L) → Calls Try.prog 17 #[.pointer (some ⟨p, 0, none⟩)] w fun e w' => e = .returned (.string ⟨L.toArray⟩) ∧ w = w') :=
          ⟨fun p bb cb w h => image_any p bb cb _ w h⟩
        clear hL hLl hk hk1
        go_wp2_with fail
        refine (O1.out _).mono ?_
        rintro e w1 ⟨p, bb, cb, rfl, hf, hp, hbb, hcb, hb⟩
        have F1 := Box.mk hf
        clear hf
        have U1 := Box.mk (((Below.refl w.heap.size w).alloc (Nat.le_refl _) (.cells (Array.replicate N (.int .u8 0)) 5)).trans (hb.mono (by simp)))
        clear hb
        go_wp2_with fail
        refine (O2.out _).mono ?_
        rintro e w2 ⟨p2, bb2, cb2, rfl, hf, hp2, hbb2, hcb2, hb⟩
        have U2 : Box (Upd [] w1 w2) := ⟨((Upd.refl [] w1).alloc (.cells (Array.replicate N (.int .u8 0)) 5)).trans (Upd.of_below hb)⟩
        have F1 := Box.mk (F1.out.upd U2.out (by simp) (by simp) (by simp))
        clear hf hb
        go_wp2_with fail
        refine (N1.out _).mono ?_
        rintro e w3 ⟨p3, bb3, cb3, rfl, hf, hp3, hbb3, hcb3, hb⟩
        have U3 := Box.mk (U2.out.trans (Upd.of_below hb))
        have F3 := Box.mk hf
        have F1 := Box.mk (F1.out.upd (S := []) (Upd.of_below hb) (by simp) (by simp) (by simp))
        clear hf hb
        go_wp2_with fail
        refine (N2.out _).mono ?_
        rintro e w4 ⟨p4, bb4, cb4, rfl, hf, hp4, hbb4, hcb4, hb⟩
        have U4 := Box.mk (U3.out.trans (Upd.of_below hb))
        have F4 := Box.mk hf
        have F3 := Box.mk (F3.out.upd (S := []) (Upd.of_below hb) (by simp) (by simp) (by simp))
        have F1 := Box.mk (F1.out.upd (S := []) (Upd.of_below hb) (by simp) (by simp) (by simp))
        clear hf hb
        go_wp2_with fail
        refine (fixed_any _).mono ?_
        rintro e w6 ⟨rfl, hb⟩
        have U6 := Box.mk (U4.out.trans (Upd.of_below hb))
        have F1 := Box.mk (fun n : Nat => (F1.out.upd (S := []) (Upd.of_below hb) (by simp) (by simp) (by simp)).upd (S := []) ((Upd.refl [] w6).drewN n) (by simp) (by simp) (by simp))
        have F3 := Box.mk (fun n : Nat => (F3.out.upd (S := []) (Upd.of_below hb) (by simp) (by simp) (by simp)).upd (S := []) ((Upd.refl [] w6).drewN n) (by simp) (by simp) (by simp))
        have F4 := F4.out.upd (S := []) (Upd.of_below hb) (by simp) (by simp) (by simp)
        obtain ⟨bcap, ccap, hb1, hc1, d0, d1, d2, d3, d4, d5, d6⟩ := F4.cells
        have hcv := fun n => run_bytes_at Try.prog (w6.drewN n) bb4 0 bcap L 26 9 5 (FS.new L).b.length rfl Try.underlying26 Try.underlying5 Try.underlying9 (fun j u hu => by rw [Nat.zero_add]; exact (F4.byte j u hu).1)
        clear d1 d2 d3 d4 d5 d6 hb1 hc1
        have F4 := Box.mk F4
        clear hb hmk hcv0
        go_wp2_with fail
        refine wp_region_quiet_lit (by kernel_rfl) (by kernel_rfl) ?_
        repeat (any_goals (first | go_big_quiet_step (first
          | (go_at_call_of 15 (Value.pointer (some ⟨p, 0, none⟩)); exact quiet_calls (S1.out p bb cb _ (F1.out _)))
          | (go_at_call_of 16 (Value.pointer (some ⟨p, 0, none⟩)); exact quiet_calls (D1.out p bb cb _ (F1.out _)))
          | (go_at_call_of 14 (Value.pointer (some ⟨p, 0, none⟩)); exact quiet_calls (B1.out p bb cb _ (F1.out _)))
          | (go_at_call_of 14 (Value.pointer (some ⟨p3, 0, none⟩)); exact quiet_calls (B2.out p3 bb3 cb3 _ (F3.out _)))
          | (go_at_call_of 17 (Value.pointer (some ⟨p3, 0, none⟩)); exact quiet_calls (I2.out p3 bb3 cb3 _ (F3.out _)))) | quiet_step (first
          | (go_at_call_of 15 (Value.pointer (some ⟨p, 0, none⟩)); exact quiet_calls (S1.out p bb cb _ (F1.out _)))
          | (go_at_call_of 16 (Value.pointer (some ⟨p, 0, none⟩)); exact quiet_calls (D1.out p bb cb _ (F1.out _)))
          | (go_at_call_of 14 (Value.pointer (some ⟨p, 0, none⟩)); exact quiet_calls (B1.out p bb cb _ (F1.out _)))
          | (go_at_call_of 14 (Value.pointer (some ⟨p3, 0, none⟩)); exact quiet_calls (B2.out p3 bb3 cb3 _ (F3.out _)))
          | (go_at_call_of 17 (Value.pointer (some ⟨p3, 0, none⟩)); exact quiet_calls (I2.out p3 bb3 cb3 _ (F3.out _))))))
        all_goals (refine wpQuiet_nil ?_; intro _ hw; obtain ⟨nq, hw2⟩ := hw; subst hw2)
        go_wp2
        go_ret
        exact ⟨rfl, Upd.below U1.out (U6.out.drewN _) (by simp) U1.out.size⟩
      · have hk' : sizeN k = false := by simpa using hk
        have N1 := Box.mk (fun w => new_no k w hk')
        have N2 := Box.mk (fun w => rnew_no k w hk')
        clear hk hk'
        go_wp2_with fail
        refine (O1.out _).mono ?_
        rintro e w1 ⟨p, bb, cb, rfl, hf, hp, hbb, hcb, hb⟩
        have F1 := Box.mk hf
        clear hf
        have U1 := Box.mk (((Below.refl w.heap.size w).alloc (Nat.le_refl _) (.cells (Array.replicate N (.int .u8 0)) 5)).trans (hb.mono (by simp)))
        clear hb
        go_wp2_with fail
        refine (O2.out _).mono ?_
        rintro e w2 ⟨p2, bb2, cb2, rfl, hf, hp2, hbb2, hcb2, hb⟩
        have U2 : Box (Upd [] w1 w2) := ⟨((Upd.refl [] w1).alloc (.cells (Array.replicate N (.int .u8 0)) 5)).trans (Upd.of_below hb)⟩
        have F1 := Box.mk (F1.out.upd U2.out (by simp) (by simp) (by simp))
        clear hf hb
        go_wp2_with fail
        refine (N1.out _).mono ?_
        rintro e w4 ⟨rfl, hb⟩
        have U4 : Box (Upd [] w1 w4) := ⟨hb ▸ U2.out⟩
        have F1 : Box (Fl 63 w4 p bb cb (FS.new (zs N).data.toList)) := ⟨hb ▸ F1.out⟩
        clear hb
        go_wp2_with fail
        refine (N2.out _).mono ?_
        rintro e w5 ⟨rfl, hb⟩
        subst hb
        go_wp2_with fail
        refine (fixed_any _).mono ?_
        rintro e w6 ⟨rfl, hb⟩
        have U6 := Box.mk (U4.out.trans (Upd.of_below hb))
        have F1 := Box.mk (fun n : Nat => (F1.out.upd (S := []) (Upd.of_below hb) (by simp) (by simp) (by simp)).upd (S := []) ((Upd.refl [] w6).drewN n) (by simp) (by simp) (by simp))
        clear hb hmk hcv0
        go_wp2_with fail
        refine wp_region_quiet_lit (by kernel_rfl) (by kernel_rfl) ?_
        repeat (any_goals (first | go_big_quiet_step (first
          | (go_at_call_of 15 (Value.pointer (some ⟨p, 0, none⟩)); exact quiet_calls (S1.out p bb cb _ (F1.out _)))
          | (go_at_call_of 16 (Value.pointer (some ⟨p, 0, none⟩)); exact quiet_calls (D1.out p bb cb _ (F1.out _)))
          | (go_at_call_of 14 (Value.pointer (some ⟨p, 0, none⟩)); exact quiet_calls (B1.out p bb cb _ (F1.out _)))) | quiet_step (first
          | (go_at_call_of 15 (Value.pointer (some ⟨p, 0, none⟩)); exact quiet_calls (S1.out p bb cb _ (F1.out _)))
          | (go_at_call_of 16 (Value.pointer (some ⟨p, 0, none⟩)); exact quiet_calls (D1.out p bb cb _ (F1.out _)))
          | (go_at_call_of 14 (Value.pointer (some ⟨p, 0, none⟩)); exact quiet_calls (B1.out p bb cb _ (F1.out _))))))
        all_goals (refine wpQuiet_nil ?_; intro _ hw; obtain ⟨nq, hw2⟩ := hw; subst hw2)
        go_wp2
        go_ret
        exact ⟨rfl, Upd.below U1.out (U6.out.drewN _) (by simp) U1.out.size⟩
    · have hs' : sizeB N = false := by simpa using hs
      have O1 := Box.mk (fun w => open_no (zs N) w (by rw [zs_size]; exact hs'))
      have O2 := Box.mk (fun w => ropen_no (zs N) w (by rw [zs_size]; exact hs'))
      clear hs hs'
      by_cases hk : sizeN k = true
      · obtain ⟨K, rfl⟩ : ∃ K : Nat, k = K := ⟨k.toNat, by unfold sizeN at hk; have := of_decide_eq_true hk; omega⟩
        have hk1 : 1 ≤ (K : Int) ∧ (K : Int) ≤ 256 := by unfold sizeN at hk; exact of_decide_eq_true hk
        have N1 := Box.mk (fun w => new_yes K w hk)
        have N2 := Box.mk (fun w => rnew_yes K w hk)
        obtain ⟨L, hL⟩ : ∃ L, L = List.replicate (512 * K) (255 : UInt8) := ⟨_, rfl⟩
        have hLl : L.length = 512 * K := by rw [hL, List.length_replicate]
        simp only [← hL] at N1 N2
        have B2 : Box (∀ p bb cb w, Fl 63 w p bb cb (FS.new L) → Calls Try.prog 14 #[.pointer (some ⟨p, 0, none⟩)] w fun e w' => e = .returned (.int .i64 K) ∧ w = w') :=
          ⟨fun p bb cb w h => by have := blocks_any p bb cb _ w h; rw [show ((FS.new L).n.length : Int) = (K : Int) from by simp only [FS.new, List.length_replicate, hLl]; omega] at this; exact this⟩
        have I2 : Box (∀ p bb cb w, Fl 63 w p bb cb (FS.new L) → Calls Try.prog 17 #[.pointer (some ⟨p, 0, none⟩)] w fun e w' => e = .returned (.string ⟨L.toArray⟩) ∧ w = w') :=
          ⟨fun p bb cb w h => image_any p bb cb _ w h⟩
        clear hL hLl hk hk1
        go_wp2_with fail
        refine (O1.out _).mono ?_
        rintro e w1 ⟨rfl, hb⟩
        have U1 := Box.mk (((Below.refl w.heap.size w).alloc (Nat.le_refl _) (.cells (Array.replicate N (.int .u8 0)) 5)).trans (hb.mono (by simp)))
        clear hb
        go_wp2_with fail
        refine (O2.out _).mono ?_
        rintro e w2 ⟨rfl, hb⟩
        have U2 : Box (Upd [] w1 w2) := ⟨hb ▸ (Upd.refl [] w1).alloc (.cells (Array.replicate N (.int .u8 0)) 5)⟩
        clear hb
        go_wp2_with fail
        refine (N1.out _).mono ?_
        rintro e w3 ⟨p3, bb3, cb3, rfl, hf, hp3, hbb3, hcb3, hb⟩
        have U3 := Box.mk (U2.out.trans (Upd.of_below hb))
        have F3 := Box.mk hf
        clear hf hb
        go_wp2_with fail
        refine (N2.out _).mono ?_
        rintro e w4 ⟨p4, bb4, cb4, rfl, hf, hp4, hbb4, hcb4, hb⟩
        have U4 := Box.mk (U3.out.trans (Upd.of_below hb))
        have F4 := Box.mk hf
        have F3 := Box.mk (F3.out.upd (S := []) (Upd.of_below hb) (by simp) (by simp) (by simp))
        clear hf hb
        go_wp2_with fail
        refine (fixed_any _).mono ?_
        rintro e w6 ⟨rfl, hb⟩
        have U6 := Box.mk (U4.out.trans (Upd.of_below hb))
        have F3 := Box.mk (fun n : Nat => (F3.out.upd (S := []) (Upd.of_below hb) (by simp) (by simp) (by simp)).upd (S := []) ((Upd.refl [] w6).drewN n) (by simp) (by simp) (by simp))
        have F4 := F4.out.upd (S := []) (Upd.of_below hb) (by simp) (by simp) (by simp)
        obtain ⟨bcap, ccap, hb1, hc1, d0, d1, d2, d3, d4, d5, d6⟩ := F4.cells
        have hcv := fun n => run_bytes_at Try.prog (w6.drewN n) bb4 0 bcap L 26 9 5 (FS.new L).b.length rfl Try.underlying26 Try.underlying5 Try.underlying9 (fun j u hu => by rw [Nat.zero_add]; exact (F4.byte j u hu).1)
        clear d1 d2 d3 d4 d5 d6 hb1 hc1
        have F4 := Box.mk F4
        clear hb hmk hcv0
        go_wp2_with fail
        refine wp_region_quiet_lit (by kernel_rfl) (by kernel_rfl) ?_
        repeat (any_goals (first | go_big_quiet_step (first
          | (go_at_call_of 14 (Value.pointer (some ⟨p3, 0, none⟩)); exact quiet_calls (B2.out p3 bb3 cb3 _ (F3.out _)))
          | (go_at_call_of 17 (Value.pointer (some ⟨p3, 0, none⟩)); exact quiet_calls (I2.out p3 bb3 cb3 _ (F3.out _)))) | quiet_step (first
          | (go_at_call_of 14 (Value.pointer (some ⟨p3, 0, none⟩)); exact quiet_calls (B2.out p3 bb3 cb3 _ (F3.out _)))
          | (go_at_call_of 17 (Value.pointer (some ⟨p3, 0, none⟩)); exact quiet_calls (I2.out p3 bb3 cb3 _ (F3.out _))))))
        all_goals (refine wpQuiet_nil ?_; intro _ hw; obtain ⟨nq, hw2⟩ := hw; subst hw2)
        go_wp2
        go_ret
        exact ⟨rfl, Upd.below U1.out (U6.out.drewN _) (by simp) U1.out.size⟩
      · have hk' : sizeN k = false := by simpa using hk
        have N1 := Box.mk (fun w => new_no k w hk')
        have N2 := Box.mk (fun w => rnew_no k w hk')
        clear hk hk'
        go_wp2_with fail
        refine (O1.out _).mono ?_
        rintro e w1 ⟨rfl, hb⟩
        have U1 := Box.mk (((Below.refl w.heap.size w).alloc (Nat.le_refl _) (.cells (Array.replicate N (.int .u8 0)) 5)).trans (hb.mono (by simp)))
        clear hb
        go_wp2_with fail
        refine (O2.out _).mono ?_
        rintro e w2 ⟨rfl, hb⟩
        have U2 : Box (Upd [] w1 w2) := ⟨hb ▸ (Upd.refl [] w1).alloc (.cells (Array.replicate N (.int .u8 0)) 5)⟩
        clear hb
        go_wp2_with fail
        refine (N1.out _).mono ?_
        rintro e w4 ⟨rfl, hb⟩
        have U4 : Box (Upd [] w1 w4) := ⟨hb ▸ U2.out⟩
        clear hb
        go_wp2_with fail
        refine (N2.out _).mono ?_
        rintro e w5 ⟨rfl, hb⟩
        subst hb
        go_wp2_with fail
        refine (fixed_any _).mono ?_
        rintro e w6 ⟨rfl, hb⟩
        have U6 := Box.mk (U4.out.trans (Upd.of_below hb))
        clear hb hmk hcv0
        go_wp2_with fail
        refine wp_region_quiet_lit (by kernel_rfl) (by kernel_rfl) ?_
        repeat (any_goals (first | go_big_quiet_step (fail) | quiet_step (fail)))
        all_goals (refine wpQuiet_nil ?_; intro _ hw; obtain ⟨nq, hw2⟩ := hw; subst hw2)
        go_wp2
        go_ret
        exact ⟨rfl, Upd.below U1.out (U6.out.drewN _) (by simp) U1.out.size⟩
theorem own : ownKnob Try.prog.godebug = none := by kernel_rfl
theorem laidOut : laidOutB Try.prog = true := by kernel_rfl
set_option maxRecDepth 100000 in
theorem lifted (os : Os) (started : os.Started) (H : Type) (enc : TypeId × Value → H) :
    ReturnsInHanded {} Try.checked os 3 .any (Rows.flashOpensSpec.pre6 enc Try.prog Try.f3 Rows.flashOpensRow.domain false) (Rows.flashOpensSpec.post enc Try.prog Try.f3 false true false false) := by
  refine returnsInHanded_of_change (C := Try.checked) own started (by kernel_rfl) Try.func3
    (ChangeSpec.witness6 (enc := enc) (C := Try.checked) false ⟨#[], #[.int .i64 0, .int .i64 0], []⟩ 8 (by kernel_rfl) (by kernel_rfl) (by kernel_rfl) (by kernel_rfl)) ?_
  intro W base args ds gs before hval0 hW hcnd _
  have hval : ∀ (j : Nat) t v, Try.f3.params[j]? = some t → args[j]? = some v → Value.okWide Try.prog W .any base t v := hval0
  have hW' := hW
  obtain ⟨p, q, hA0, hV, rfl, hfz, hnd⟩ := hW
  have hA : DataW.TrodAll enc Try.prog W 0 (fun _ => true) true Try.f3.params.toList args.toList ds p := hA0
  rw [Try.params3] at hA hval
  obtain ⟨v0, vs0, d0, ds0, p0, q0, hargs, rfl, rfl, h0, r0⟩ := trodAll_cons hA
  obtain ⟨v1, vs1, d1, ds1, p1, q1, rfl, rfl, rfl, h1, r1⟩ := trodAll_cons r0
  obtain ⟨rfl, rfl, rfl⟩ := trodAll_nil r1
  obtain rfl : args = #[v0, v1] := by cases args; simp_all
  obtain ⟨rfl, rfl⟩ := trodVars_none hV
  obtain ⟨s0, rfl, rfl, rfl, ws0⟩ := open_int Try.underlying3 (hval 0 3 v0 rfl rfl) h0
  obtain ⟨s1, rfl, rfl, rfl, ws1⟩ := open_int Try.underlying3 (hval 1 3 v1 rfl rfl) h1
  clear hA0 hval0
  refine (walk s0 ws0 s1 ws1 W).mono fun e W' ⟨he, bel⟩ => ?_
  subst he
  exact ⟨_, rfl, _, _, _, [], _, [], hW', trodAll_mk1 (shut_bool Try.underlying4 _), (trodAll_cons_mk (shut_int Try.underlying3 ws0) (trodAll_cons_mk (shut_int Try.underlying3 ws1) trodAll_mk0)), rfl, bel.frame _, fun h => by cases h⟩

theorem proved : Rows.FlashOpensSaid :=
  OpenClaim.holds_of_wide 3 Try.f3 rfl rfl rfl rfl rfl rfl rfl ⟨rfl, rfl, rfl, rfl, rfl⟩ rfl rfl rfl rfl rfl (by kernel_rfl) Try.func3 (by kernel_rfl)
    (of_decide_eq_true (by kernel_rfl)) (by unfold Func.isWrapper; first | (rw [if_pos (by decide +kernel)]; kernel_rfl) | (rw [if_neg (by decide +kernel)]; exact ⟨rfl, rfl⟩))
    (fun os started H enc _ => lifted os started H enc)
#print axioms proved
end Go.Proofs.Ythdhgjndchmmbaa.flashOpens
