/- Manifest: digits of bytes: the program's Hex, the document's. -/
import Derived.Test.YtafhncpaoolljaaManQ
import Derived.Test.YtafhncpaoolljaaMixU
import Derived.Test.YtafhncpaoolljaaOwn
import Derived.IntWalk
import Derived.Deep.DeepCutAuto
import Derived.Deep.CutBlock
import Derived.OwnWalk
import Derived.Test.YtafhncpaoolljaaRows
namespace Go.Proofs.Ytafhncpaoolljaa
set_option maxRecDepth 100000
set_option linter.unusedVariables false
open Go Go.RowKit

theorem Upd.belowN {a b : World} (u : Upd [] a b) : Below a.heap.size a b := ⟨u.os, u.tape, u.output, u.size, fun i hi => u.block i hi (by simp)⟩
section
variable {P : Program} {W : World} {S : List Nat} {T : (World → Prop) → List Nat → Act → Prop} {L : List (Oper × Kd)} {F : World → Prop} {N : List Nat} {a : Act} {o : Oper}
/-- A slice of two. -/
theorem gm_two {ty e : TypeId} (x y : Operand) (ho : o.op = .buildSlice ty 2 #[(0, x), (1, y)]) (u v : Value) (hx : a.eval x = u) (hy : a.eval y = v) (hr : ∀ w, (Instr.buildSlice ty 2 #[(0, u), (1, v)]).run P w = .ok (.slice (some ⟨w.heap.size, 0, none⟩) 2 2) (w.alloc (.cells #[u, v] e))) (hF : Stb F)
    (h : ∀ b, W.heap.size ≤ b → wpG P W S T L (fun w => F w ∧ w.heap[b]? = some (.cells #[u, v] e (0, 0))) ([b] ++ N) (a.put o.dst (.slice (some ⟨b, 0, none⟩) 2 2))) : wpG P W S T ((o, .cha) :: L) F N a :=
  gm_val fun w hw hFw => ⟨_, _, by
    subst hx; subst hy
    unfold execOp
    simp only [ho, Sem.run_bind, List.map_toArray, List.map_cons, List.map_nil, hr, Result.andThen_ok, Sem.run_pure], Gr.alloc _ _, _, [w.heap.size], hF.new _ _, ⟨hF _ _ (Gr.alloc _ _) hFw, heap_alloc_new _ _⟩, fun b hb => by simp at hb; subst hb; simp, h _ hw.size⟩
end
theorem take_succ_at (s : ByteArray) (j : Nat) (h : j < s.size) : s.data.toList.take (j + 1) = s.data.toList.take j ++ [s[j]] := by
  rw [List.take_succ_eq_append_getElem (by rw [Array.length_toList]; exact h)]; rfl
theorem hex_snoc (s : ByteArray) (j : Nat) (h : j < s.size) : hexL (s.data.toList.take (j + 1)) = hexL (s.data.toList.take j) ++ [dgM (s[j].toNat / 16), dgM (s[j].toNat % 16)] := by
  rw [take_succ_at s j h, hexL_app]; rfl
theorem and15 : ∀ k : Nat, k < 256 → bits .and .u8 (k : Int) 15 = ((k % 16 : Nat) : Int) := by decide +kernel
theorem digs_get : ∀ (n : Nat) (h : n < 16), (⟨#[48, 49, 50, 51, 52, 53, 54, 55, 56, 57, 97, 98, 99, 100, 101, 102]⟩ : ByteArray)[n]'h = dgM n := by decide
theorem own_str {w : World} {B n : Nat} {v : Value} {l : List UInt8} (h : Own w B 5 v n (l.map byv)) (hn : v ≠ .slice none 0 0) : (convert 37 9 v).run Try.prog w = .ok (.string ⟨l.toArray⟩) w :=
  run_str_Own h hn Try.underlying37 Try.underlying5 Try.underlying9
set_option maxHeartbeats 2000000 in
theorem hex_any (s : ByteArray) (hs : s.size ≤ 100000) (w : World) : Calls Try.prog 17 #[.string s] w fun e w' => e = .returned (.string ⟨(hexL s.data.toList).toArray⟩) ∧ Below w.heap.size w w' := by
  obtain ⟨M, hM⟩ : ∃ M, M = 2 * s.size := ⟨_, rfl⟩
  have hw0 : IntKind.i64.wrap (2 * (s.size : Int)) = (M : Int) := by rw [IntKind.wrap_i64]; omega
  have hmk := fun w => make_room (P := Try.prog) Try.underlying37 (e := 5) (z := .int .u8 0) (by_ := 1) (by kernel_rfl) rfl 0 M (by omega) (by omega) (by omega) 0 (M : Int) rfl rfl w
  obtain ⟨B, hB⟩ : ∃ B, B = w.heap.size := ⟨_, rfl⟩
  obtain ⟨Z, hZ⟩ : ∃ Z, Z = (List.replicate M (Value.int .u8 0)).toArray := ⟨_, rfl⟩
  rw [← hZ] at hmk
  have O0 := Box.mk (show Own (w.alloc (.cells Z 5)) B 5 (.slice (some ⟨B, 0, none⟩) 0 M) 0 [] by rw [hB]; exact Own.made w 5 Z M w.heap.size (Nat.le_refl _) (by unfold maxLen; omega) (by rw [hZ]; simp))
  have B0 := Box.mk (show Below B w (w.alloc (.cells Z 5)) by rw [hB]; exact (Below.refl _ _).alloc (Nat.le_refl _) _)
  have HBW := Box.mk hB
  rw [← hB]
  clear hM hZ
  go_enter Try.func17, Try.ntmps17
  go_wp2_with fail
  rw [← hB]
  clear hB hmk hw0
  go_loopw [3, 11] (fun v i wr => ∃ (j : Nat) (x : Value), j ≤ s.size ∧ x = v ∧ i = .int .i64 (j : Int) ∧ Own wr B 5 x (2 * j) ((hexL (s.data.toList.take j)).map byv) ∧ x ≠ .slice none 0 0 ∧ Below B w wr) (fun _ i _ => s.size - (intOf i).toNat)
  case atStart => exact ⟨0, _, Nat.zero_le _, rfl, rfl, O0.out, by simp, B0.out⟩
  case round =>
    clear O0 B0
    obtain ⟨j, v, hj, rfl, rfl, ho, hv, hb⟩ := hrel
    have OW := Box.mk ho; have HB := Box.mk hb; have HV := Box.mk hv
    clear ho hb hv
    by_cases hlt : j < s.size
    · have hjI : (j : Int) < (s.size : Int) := by omega
      obtain ⟨x, hx⟩ : ∃ x, x = s[j] := ⟨_, rfl⟩
      have hxe : s[j] = x := hx.symm
      have NX := Box.mk (hex_snoc s j hlt)
      rw [hxe] at NX
      have hx8 := x.toNat_lt
      obtain ⟨X1, hX1⟩ : ∃ X, X = x.toNat / 16 := ⟨_, rfl⟩
      obtain ⟨X2, hX2⟩ : ∃ X, X = x.toNat % 16 := ⟨_, rfl⟩
      obtain ⟨A, hA⟩ : ∃ A, A = (dgM X1).toNat := ⟨_, rfl⟩
      obtain ⟨C, hC⟩ : ∃ A, A = (dgM X2).toNat := ⟨_, rfl⟩
      have h1 : X1 < 16 := by omega
      have h2 : X2 < 16 := by omega
      have h1I : (X1 : Int) < 16 := by omega
      have h2I : (X2 : Int) < 16 := by omega
      have e1 : (x.toNat : Int) / 16 = (X1 : Int) := by omega
      have e2 : bits .and .u8 (x.toNat : Int) 15 = (X2 : Int) := by rw [hX2]; exact and15 _ hx8
      have e3 : ((⟨#[48, 49, 50, 51, 52, 53, 54, 55, 56, 57, 97, 98, 99, 100, 101, 102]⟩ : ByteArray)[X1]'h1).toNat = A := by rw [digs_get X1 h1, hA]
      have e4 : ((⟨#[48, 49, 50, 51, 52, 53, 54, 55, 56, 57, 97, 98, 99, 100, 101, 102]⟩ : ByteArray)[X2]'h2).toNat = C := by rw [digs_get X2 h2, hC]
      have HA := Box.mk (show A = (dgM (x.toNat / 16)).toNat by rw [hA, hX1]); have HC := Box.mk (show C = (dgM (x.toNat % 16)).toNat by rw [hC, hX2])
      clear hX1 hX2 hA hC hx
      go_upto_region 5 with (fail)
      refine wp_region_mix 12 [.flo, .flo, .flo, .flo, .flo, .flo, .flo, .flo, .flo, .flo, .flo, .cha] (by kernel_rfl) (by kernel_rfl) rfl ?_
      simp only [List.take, List.zip, List.zipWith]
      try go_frame
      refine gm_move (.tmp 3) (.inl rfl) (v) rfl ?_
      try go_frame
      refine gm_move (.tmp 0) (.inl rfl) (.string s) rfl ?_
      try go_frame
      refine gm_move (.tmp 4) (.inl rfl) (.int .i64 (j : Int)) rfl ?_
      try go_frame
      refine gm_flo (.int .u8 (x.toNat : Int)) (fun w1 hw1 => ?_) ?_
      case refine_1 =>
        go_simp
      try go_frame
      refine gm_flo (.int .u8 (X1 : Int)) (fun w1 hw1 => ?_) ?_
      case refine_1 =>
        go_simp
      try go_frame
      refine gm_flo (.int .u8 (A : Int)) (fun w1 hw1 => ?_) ?_
      case refine_1 =>
        go_simp
      try go_frame
      refine gm_move (.tmp 0) (.inl rfl) (.string s) rfl ?_
      try go_frame
      refine gm_move (.tmp 4) (.inl rfl) (.int .i64 (j : Int)) rfl ?_
      try go_frame
      refine gm_flo (.int .u8 (x.toNat : Int)) (fun w1 hw1 => ?_) ?_
      case refine_1 =>
        go_simp
      try go_frame
      refine gm_flo (.int .u8 (X2 : Int)) (fun w1 hw1 => ?_) ?_
      case refine_1 =>
        go_simp
      try go_frame
      refine gm_flo (.int .u8 (C : Int)) (fun w1 hw1 => ?_) ?_
      case refine_1 =>
        go_simp
      try go_frame
      refine gm_two (e := 5) (.tmp 19) (.tmp 24) rfl (.int .u8 (A : Int)) (.int .u8 (C : Int)) rfl rfl (fun _ => by kernel_rfl) Stb.tt (fun b1 hb1 => ?_)
      try go_frame
      refine gm_nil ?_
      intro w9 hw9 hF9
      simp only [List.drop]
      try go_frame
      have U9 := Box.mk ((Upd.refl [] wr).drew.trans hw9.upd)
      have NB9 := Box.mk hF9.2
      have O9 := Box.mk (OW.out.below (Upd.belowN U9.out))
      have B9 := Box.mk (HB.out.trans ((Upd.belowN U9.out).mono (by have := HB.out.size; have := HBW.out; omega)))
      clear hw9 hF9 hb1
      have hnews : ∀ (j0 : Nat) (u : Value), ([.int .u8 (A : Int), .int .u8 (C : Int)] : List Value)[j0]? = some u → w9.cell? ((⟨b1, 0, none⟩ : Addr).add j0) = some u := fun j0 u hu => by
        rw [show ((⟨b1, 0, none⟩ : Addr).add j0) = ⟨b1, j0, none⟩ from by unfold Addr.add; split <;> simp_all, cell_of_row _ _ _ _ _ _ NB9.out]; simpa using hu
      go_wp2_with (at_builtin; refine wpList_app (w0 := w) rfl (.tmp 14) (.tmp 25) 37 rfl B 5 (.int .u8 0) 1 Try.underlying37 (by kernel_rfl) rfl v (2 * j) ((hexL (s.data.toList.take j)).map byv) rfl O9.out B9.out (by have := B9.out.size; have := HBW.out; omega) ⟨b1, 0, none⟩ 2 2 [.int .u8 (A : Int), .int .u8 (C : Int)] rfl rfl hnews (fun u hu => by simp at hu; rcases hu with rfl | rfl <;> rfl) (by decide) (by omega) (by decide) ?_)
      intro v' w' hown hb hB hgr hnn
      have HO := Box.mk hown; have HBB := Box.mk hb
      clear hown hb hB hgr hnews OW HB U9 NB9 O9 B9
      go_wp2_with fail
      refine ⟨⟨j + 1, v', hlt, rfl, by go_num, ?_, hnn, HBB.out⟩, by simp [intOf]; omega⟩
      have e := HO.out
      rw [NX.out, List.map_append]
      rw [show 2 * (j + 1) = 2 * j + 2 by omega]
      rw [show [dgM (x.toNat / 16), dgM (x.toNat % 16)].map byv = [.int .u8 (A : Int), .int .u8 (C : Int)] by rw [HA.out, HC.out]; rfl]
      exact e
    · have hjk : j = s.size := by omega
      subst hjk
      have hcv := own_str OW.out HV.out
      rw [List.take_of_length_le (by rw [Array.length_toList]; exact Nat.le_refl _)] at hcv
      clear hlt
      go_wp2_with fail
      go_ret
      exact ⟨rfl, HB.out⟩
theorem rdigit_any (n : Nat) (hn : n < 16) (w : World) : Calls Try.prog 26 #[.int .u8 (n : Int)] w fun e w' => e = .returned (.int .u8 ((dgM n).toNat : Int)) ∧ w = w' := by
  by_cases h : n < 10
  · have hI : (n : Int) < 10 := by omega
    have hw : IntKind.u8.wrap (48 + (n : Int)) = ((dgM n).toNat : Int) := by rw [IntKind.wrap_u8]; unfold dgM; rw [if_pos h, UInt8.toNat_ofNat']; omega
    clear h hn
    go_enter Try.func26, Try.ntmps26
    go_wp2_with fail
    go_ret
    exact ⟨rfl, rfl⟩
  · have hI : ¬ (n : Int) < 10 := by omega
    obtain ⟨m, hm⟩ : ∃ m, m = 97 + n := ⟨_, rfl⟩
    have hw0 : IntKind.u8.wrap (97 + (n : Int)) = (m : Int) := by rw [IntKind.wrap_u8]; omega
    have hw : IntKind.u8.wrap ((m : Int) - 10) = ((dgM n).toNat : Int) := by rw [IntKind.wrap_u8]; unfold dgM; rw [if_neg h, UInt8.toNat_ofNat']; omega
    clear h hn hm
    go_enter Try.func26, Try.ntmps26
    go_wp2_with fail
    go_ret
    exact ⟨rfl, rfl⟩
set_option maxHeartbeats 2000000 in
theorem rhex_any (s : ByteArray) (hs : s.size ≤ 10000000) (w : World) : Calls Try.prog 19 #[.string s] w fun e w' => e = .returned (.string ⟨(hexL s.data.toList).toArray⟩) ∧ Below w.heap.size w w' := by
  have DG := Box.mk (fun n h w => rdigit_any n h w)
  obtain ⟨B, hB⟩ : ∃ B, B = w.heap.size := ⟨_, rfl⟩
  have O0 := Box.mk (show Own (w.alloc (.cells #[] 5)) B 5 (.slice (some ⟨B, 0, none⟩) 0 0) 0 [] by rw [hB]; exact Own.made w 5 #[] 0 w.heap.size (Nat.le_refl _) (by unfold maxLen; omega) rfl)
  have B0 := Box.mk (show Below B w (w.alloc (.cells #[] 5)) by rw [hB]; exact (Below.refl _ _).alloc (Nat.le_refl _) _)
  have HBW := Box.mk hB
  rw [← hB]
  go_enter Try.func19, Try.ntmps19
  go_wp2_with fail
  rw [← hB]
  clear hB
  go_loopw [3, 4] (fun v i wr => ∃ (j : Nat) (x : Value), j ≤ s.size ∧ x = v ∧ i = .int .i64 (j : Int) ∧ Own wr B 5 x (2 * j) ((hexL (s.data.toList.take j)).map byv) ∧ x ≠ .slice none 0 0 ∧ Below B w wr) (fun _ i _ => s.size - (intOf i).toNat)
  case atStart => exact ⟨0, _, Nat.zero_le _, rfl, rfl, O0.out, by simp, B0.out⟩
  case round =>
    clear O0 B0
    obtain ⟨j, v, hj, rfl, rfl, ho, hv, hb⟩ := hrel
    have OW := Box.mk ho; have HB := Box.mk hb; have HV := Box.mk hv
    clear ho hb hv
    by_cases hlt : j < s.size
    · have hjI : (j : Int) < (s.size : Int) := by omega
      obtain ⟨x, hx⟩ : ∃ x, x = s[j] := ⟨_, rfl⟩
      have hxe : s[j] = x := hx.symm
      have NX := Box.mk (hex_snoc s j hlt)
      rw [hxe] at NX
      have hx8 := x.toNat_lt
      obtain ⟨X1, hX1⟩ : ∃ X, X = x.toNat / 16 := ⟨_, rfl⟩
      obtain ⟨X2, hX2⟩ : ∃ X, X = x.toNat % 16 := ⟨_, rfl⟩
      obtain ⟨A, hA⟩ : ∃ A, A = (dgM X1).toNat := ⟨_, rfl⟩
      obtain ⟨C, hC⟩ : ∃ A, A = (dgM X2).toNat := ⟨_, rfl⟩
      have D1 := Box.mk (fun w => rdigit_any X1 (by omega) w)
      have D2 := Box.mk (fun w => rdigit_any X2 (by omega) w)
      rw [← hA] at D1; rw [← hC] at D2
      have e1 : (x.toNat : Int) / 16 = (X1 : Int) := by omega
      have e2 : ((x.toNat : Nat) : Int).tmod 16 = (X2 : Int) := by rw [Int.tmod_eq_emod_of_nonneg (by omega)]; omega
      have e3 : IntKind.u8.wrap (X1 : Int) = (X1 : Int) := by rw [IntKind.wrap_u8]; omega
      have e4 : IntKind.u8.wrap (X2 : Int) = (X2 : Int) := by rw [IntKind.wrap_u8]; omega
      have HA := Box.mk (show A = (dgM (x.toNat / 16)).toNat by rw [hA, hX1]); have HC := Box.mk (show C = (dgM (x.toNat % 16)).toNat by rw [hC, hX2])
      clear hX1 hX2 hA hC hx DG
      go_upto_region 5 with (fail)
      refine wp_region_mix 12 [.flo, .flo, .flo, .flo, .flo, .cha, .flo, .flo, .flo, .flo, .cha, .cha] (by kernel_rfl) (by kernel_rfl) rfl ?_
      simp only [List.take, List.zip, List.zipWith]
      try go_frame
      refine gm_move (.tmp 3) (.inl rfl) (v) rfl ?_
      try go_frame
      refine gm_move (.tmp 0) (.inl rfl) (.string s) rfl ?_
      try go_frame
      refine gm_move (.tmp 4) (.inl rfl) (.int .i64 (j : Int)) rfl ?_
      try go_frame
      refine gm_flo (.int .u8 (x.toNat : Int)) (fun w1 hw1 => ?_) ?_
      case refine_1 =>
        go_simp
      try go_frame
      refine gm_flo (.int .u8 (X1 : Int)) (fun w1 hw1 => ?_) ?_
      case refine_1 =>
        go_simp
      try go_frame
      refine gm_call [.int .u8 (X1 : Int)] (by kernel_rfl) rfl rfl Stb.tt (fun w1 hw1 hF1 => (D1.out w1).mono ?_)
      rintro e w2 ⟨rfl, rfl⟩
      refine ⟨_, rfl, Gr.refl _, ?_⟩
      clear hw1 hF1 w1
      try go_frame
      refine gm_move (.tmp 0) (.inl rfl) (.string s) rfl ?_
      try go_frame
      refine gm_move (.tmp 4) (.inl rfl) (.int .i64 (j : Int)) rfl ?_
      try go_frame
      refine gm_flo (.int .u8 (x.toNat : Int)) (fun w1 hw1 => ?_) ?_
      case refine_1 =>
        go_simp
      try go_frame
      refine gm_flo (.int .u8 (X2 : Int)) (fun w1 hw1 => ?_) ?_
      case refine_1 =>
        go_simp
      try go_frame
      refine gm_call [.int .u8 (X2 : Int)] (by kernel_rfl) rfl rfl Stb.tt (fun w1 hw1 hF1 => (D2.out w1).mono ?_)
      rintro e w2 ⟨rfl, rfl⟩
      refine ⟨_, rfl, Gr.refl _, ?_⟩
      clear hw1 hF1 w1
      try go_frame
      refine gm_two (e := 5) (.tmp 17) (.tmp 22) rfl (.int .u8 (A : Int)) (.int .u8 (C : Int)) rfl rfl (fun _ => by kernel_rfl) Stb.tt (fun b1 hb1 => ?_)
      try go_frame
      refine gm_nil ?_
      intro w9 hw9 hF9
      simp only [List.drop]
      try go_frame
      have U9 := Box.mk ((Upd.refl [] wr).drew.trans hw9.upd)
      have NB9 := Box.mk hF9.2
      have O9 := Box.mk (OW.out.below (Upd.belowN U9.out))
      have B9 := Box.mk (HB.out.trans ((Upd.belowN U9.out).mono (by have := HB.out.size; have := HBW.out; omega)))
      clear hw9 hF9 hb1
      have hnews : ∀ (j0 : Nat) (u : Value), ([.int .u8 (A : Int), .int .u8 (C : Int)] : List Value)[j0]? = some u → w9.cell? ((⟨b1, 0, none⟩ : Addr).add j0) = some u := fun j0 u hu => by
        rw [show ((⟨b1, 0, none⟩ : Addr).add j0) = ⟨b1, j0, none⟩ from by unfold Addr.add; split <;> simp_all, cell_of_row _ _ _ _ _ _ NB9.out]; simpa using hu
      go_wp2_with (at_builtin; refine wpList_app (w0 := w) rfl (.tmp 12) (.tmp 23) 37 rfl B 5 (.int .u8 0) 1 Try.underlying37 (by kernel_rfl) rfl v (2 * j) ((hexL (s.data.toList.take j)).map byv) rfl O9.out B9.out (by have := B9.out.size; have := HBW.out; omega) ⟨b1, 0, none⟩ 2 2 [.int .u8 (A : Int), .int .u8 (C : Int)] rfl rfl hnews (fun u hu => by simp at hu; rcases hu with rfl | rfl <;> rfl) (by decide) (by omega) (by decide) ?_)
      intro v' w' hown hb hB hgr hnn
      have HO := Box.mk hown; have HBB := Box.mk hb
      clear hown hb hB hgr hnews OW HB U9 NB9 O9 B9
      go_wp2_with fail
      refine ⟨⟨j + 1, v', hlt, rfl, by go_num, ?_, hnn, HBB.out⟩, by simp [intOf]; omega⟩
      have e := HO.out
      rw [NX.out, List.map_append]
      rw [show 2 * (j + 1) = 2 * j + 2 by omega]
      rw [show [dgM (x.toNat / 16), dgM (x.toNat % 16)].map byv = [.int .u8 (A : Int), .int .u8 (C : Int)] by rw [HA.out, HC.out]; rfl]
      exact e
    · have hjk : j = s.size := by omega
      subst hjk
      have hcv := own_str OW.out HV.out
      rw [List.take_of_length_le (by rw [Array.length_toList]; exact Nat.le_refl _)] at hcv
      clear hlt
      go_wp2_with fail
      go_ret
      exact ⟨rfl, HB.out⟩
end Go.Proofs.Ytafhncpaoolljaa
