/- Whatever two uint32 come in, the call of ScalarSmall returns true and leaves its arguments as they were. No condition. -/
import Derived.Test.YtilehlgnkfjcpaaScalarM
import Derived.StillTailTactics
import Derived.ProofKit
import Derived.OpenShut
import Derived.ShutString
import Derived.ChangeOld
namespace Go.Proofs.Ytilehlgnkfjcpaa.scalarSmall
open Go Go.RowKit Go.ChangeShapes Go.WideShapes Go.ChangeAt
open Go.ChangeMaps (open_string shut_string)
set_option linter.unusedVariables false

set_option maxHeartbeats 1000000 in
theorem small_any (x0 x1 x2 x3 : Int) (b : Nat) (w : World) (h0 : 0 ≤ x0 ∧ x0 < 256) (h1 : 0 ≤ x1 ∧ x1 < 256) (h2 : 0 ≤ x2 ∧ x2 < 256) (h3 : 0 ≤ x3 ∧ x3 < 256)
    (hb : w.heap[b]? = some (.cells #[.int .i64 x0, .int .i64 x1, .int .i64 x2, .int .i64 x3] 3 (0, 0))) :
    Calls Try.prog 21 #[.slice (some ⟨b, 0, none⟩) 4 4] w fun e w' => ∃ t, Box (t = sc (((x0 * 256 + x1) * 256 + x2) * 256 + x3).toNat) ∧ e = .returned (.string t) ∧ Below w.heap.size w w' := by
  have c0 : w.cell? ⟨b, 0, none⟩ = some (.int .i64 x0) := by rw [cell_of_row _ _ _ _ _ _ hb]; rfl
  have c1 : w.cell? ⟨b, 1, none⟩ = some (.int .i64 x1) := by rw [cell_of_row _ _ _ _ _ _ hb]; rfl
  have c2 : w.cell? ⟨b, 2, none⟩ = some (.int .i64 x2) := by rw [cell_of_row _ _ _ _ _ _ hb]; rfl
  have c3 : w.cell? ⟨b, 3, none⟩ = some (.int .i64 x3) := by rw [cell_of_row _ _ _ _ _ _ hb]; rfl
  obtain ⟨x0, rfl⟩ := Int.eq_ofNat_of_zero_le h0.1
  obtain ⟨x1, rfl⟩ := Int.eq_ofNat_of_zero_le h1.1
  obtain ⟨x2, rfl⟩ := Int.eq_ofNat_of_zero_le h2.1
  obtain ⟨x3, rfl⟩ := Int.eq_ofNat_of_zero_le h3.1
  have hd : ∀ W : World, DRow (W.alloc (.cells #[.int .i64 (x3 : Int), .int .i64 (x2 : Int), .int .i64 (x1 : Int), .int .i64 (x0 : Int)] 3)) W.heap.size 4 (((x0 * 256 + x1) * 256 + x2) * 256 + x3) := fun W => by
    refine DRow.of (t := 3) ?_
    rw [heap_alloc_new]
    congr 2
    simp [dcells, digit, List.range, List.range.loop]; omega
  have hN : Box (In256 (((x0 * 256 + x1) * 256 + x2) * 256 + x3) 4) := ⟨by unfold In256; omega⟩
  have HD : Box (∀ W : World, DRow (W.alloc (.cells #[.int .i64 (x3 : Int), .int .i64 (x2 : Int), .int .i64 (x1 : Int), .int .i64 (x0 : Int)] 3)).drew W.heap.size 4 (((x0 * 256 + x1) * 256 + x2) * 256 + x3)) := ⟨fun W j hj => hd W j hj⟩
  clear hd hb
  have HT : Box (((((x0 : Int) * 256 + x1) * 256 + x2) * 256 + x3).toNat = ((x0 * 256 + x1) * 256 + x2) * 256 + x3) := ⟨by omega⟩
  go_enter Try.func21, Try.ntmps21
  go_wp2
  go_still_tail 12, (by kernel_rfl)
  change wpList _ _ _ _ _ w.drew
  go_wp2_with fail
  refine (refMod_any (((x0 * 256 + x1) * 256 + x2) * 256 + x3) 4 _ 4 _ hN.out (by omega) (HD.out w) (by simp)).mono ?_
  rintro e w1 ⟨rfl, hb1⟩
  go_wp2
  go_ret
  refine ⟨_, ⟨by rw [HT.out]⟩, rfl, ?_⟩
  exact (((Below.refl _ _).alloc (Nat.le_refl _) _).drew).trans (hb1.mono (by simp))

theorem sh8 (n k : Nat) (hn : n < 18446744073709551616) (hk : k < 8) : bits .and .u64 ((n : Int) / 2 ^ (8 * k)) 255 = ((n / 256 ^ k % 256 : Nat) : Int) := by
  rw [show ((2 : Int) ^ (8 * k)) = ((2 ^ (8 * k) : Nat) : Int) from by simp, ← Int.natCast_ediv, show (255 : Int) = ((255 : Nat) : Int) from rfl,
    u64_and_nat _ _ (Nat.lt_of_le_of_lt (Nat.div_le_self _ _) hn) (by omega), nat_mask8, pow8]
theorem dvals_step (n c : Nat) : dvals n c ++ [.int .i64 (digit n c)] = dvals n (c + 1) := by
  unfold dvals; rw [List.range_succ, List.map_append]; rfl
set_option maxHeartbeats 1000000 in
theorem wider_any (n : Nat) (hn : n < 18446744073709551616) (w : World) :
    Calls Try.prog 22 #[.int .u64 n] w fun e w' => ∃ t, Box (t = sc n) ∧ e = .returned (.string t) ∧ Below w.heap.size w w' := by
  have HI := info_parts info_int
  have HN := Box.mk hn
  go_enter Try.func22, Try.ntmps22
  go_wp2_with fail
  have hown0 := World.ownsRow_made (base := w.heap.size) (e := 3) (size := 1) w #[] 0 (Nat.le_refl _) (by omega) (by simp)
  go_loopw [3, 4] (fun v i wr => ∃ k : Nat, k ≤ 8 ∧ i = .int .i64 k ∧ wr.ownsRow w.heap.size 3 1 v k (dvals n k) ∧ v ≠ .slice none 0 0 ∧ Below w.heap.size w wr) (fun _ i _ => 8 - (intOf i).toNat)
  case atStart => exact ⟨0, by omega, rfl, hown0, by simp, (Below.refl _ _).alloc (Nat.le_refl _) _⟩
  case round =>
    clear hown0
    obtain ⟨k, hk, rfl, hown, hnn, hbel⟩ := hrel
    obtain ⟨i0, hi, hz0, hz1, hz2⟩ := HI
    by_cases hlt : k < 8
    · have hsh : bits .and .u64 ((n : Int) / 2 ^ (8 * k)) 255 = digit n k := by rw [sh8 n k hn hlt, digit_eq]
      have hdb := digit_bd n k
      have hsn := dvals_step n k
      generalize digit n k = d at hsh hdb hsn
      have HSN := Box.mk hsn; clear hsn
      have HB := Box.mk hbel; clear hbel
      have HNN := Box.mk hnn; clear hnn
      go_wp2_with (at_builtin; refine wpList_append_own _ rfl _ _ 35 rfl w.heap.size 3 i0 (.int .i64 0) 1 8 Try.underlying35 hi hz0 hz1 hz2 rfl (by decide) _ _ _ rfl (hown.alloc _) ⟨wr.heap.size, 0, none⟩ 1 1 [.int .i64 d] rfl rfl ?c1 ?c2 ?c3 ?c4 ?c5 ?_)
      case c1 =>
        intro j u hj
        match j, hj with
        | 0, hj => simp at hj; subst hj; simp [Addr.add]
      case c2 => intro u hu; simp at hu; subst hu; rfl
      case c3 => unfold maxLen; omega
      case c4 => omega
      case c5 => have := HB.out.size; simp; omega
      intro v' w1 hown' hgrow hnil
      have hlo := hown.lt
      rw [HSN.out] at hown'
      have hbel := (HB.out.alloc HB.out.size (.cells #[.int .i64 d] 3)).grown hgrow (by have := HB.out.size; simp; omega) (fun t ht => (hlo t ht).1)
      clear hown hgrow HB hlo
      have HO := Box.mk hown'; clear hown'
      have HB := Box.mk hbel; clear hbel
      have HNN := Box.mk hnil; clear hnil hsh
      go_wp2
      go_roundw
      case rel => exact ⟨k + 1, by omega, by go_num, HO.out, HNN.out, HB.out⟩
      case measure => simp [intOf]; omega
    · have hk2 : k = 8 := by omega
      subst hk2
      obtain ⟨g, cap, rfl, hbg, hcells, hlt2⟩ := owned_row2 hown hnn
      have hdr : DRow wr g 8 n := fun j hj => hcells j _ (dvals_get _ _ _ hj)
      have HD := Box.mk hdr; clear hdr hcells hown
      have HB := Box.mk hbel; clear hbel
      have hN : Box (In256 n 8) := ⟨by unfold In256; omega⟩
      clear hn
      go_wp2_with fail
      refine (refMod_any n 8 g cap _ hN.out (by omega) HD.out hlt2).mono ?_
      rintro e w2 ⟨rfl, hb2⟩
      go_wp2
      go_ret
      exact ⟨_, ⟨rfl⟩, rfl, HB.out.trans (hb2.mono HB.out.size)⟩

theorem wider_int (n : Int) (hn : 0 ≤ n ∧ n < 18446744073709551616) (w : World) :
    Calls Try.prog 22 #[.int .u64 n] w fun e w' => ∃ t, Box (t = sc n.toNat) ∧ e = .returned (.string t) ∧ Below w.heap.size w w' := by
  obtain ⟨n, rfl⟩ := Int.eq_ofNat_of_zero_le hn.1
  exact wider_any n (by omega) w
theorem and255 (x : Int) (h : 0 ≤ x ∧ x ≤ 4294967295) : bits .and .u32 x 255 = x % 256 := by
  obtain ⟨x, rfl⟩ := Int.eq_ofNat_of_zero_le h.1
  rw [show (255 : Int) = ((255 : Nat) : Int) from rfl, u32_and_nat _ _ (by omega) (by omega), nat_mask8]; omega
theorem row_old (W : World) (A B : Obj) : ((W.alloc A).alloc B).heap[W.heap.size]? = some A := by
  rw [heap_alloc_old _ _ (by simp), heap_alloc_new]
theorem row_new (W : World) (A B : Obj) : ((W.alloc A).alloc B).heap[W.heap.size + 1]? = some B := by
  have := heap_alloc_new (W.alloc A) B
  rwa [World.size_alloc] at this
set_option maxRecDepth 100000 in
set_option maxHeartbeats 2000000 in
theorem walk (a : Int) (wa : (Lit.int .u32 a).wf = true) (b : Int) (wb : (Lit.int .u32 b).wf = true) (w : World) :
    Calls Try.prog 9 #[.int .u32 a, .int .u32 b] w fun e w' => e = .returned (.bool true) ∧ Below w.heap.size w w' := by
  have ba : 0 ≤ a ∧ a ≤ 4294967295 := bounds_u32 wa
  have bb : 0 ≤ b ∧ b ≤ 4294967295 := bounds_u32 wb
  clear wa wb
  have hm0 : 0 ≤ a * b := Int.mul_nonneg ba.1 bb.1
  have hm1 : a * b ≤ 18446744065119617025 := Int.mul_le_mul ba.2 bb.2 bb.1 (by omega)
  have f1 := and255 (a / 65536) (by omega); have f2 := and255 (a / 256) (by omega); have f3 := and255 a (by omega)
  have g1 := and255 (b / 65536) (by omega); have g2 := and255 (b / 256) (by omega); have g3 := and255 b (by omega)
  go_enter Try.func9, Try.ntmps9
  go_wp2_with fail
  refine (small_any _ _ _ _ _ _ ?_ ?_ ?_ ?_ (row_old w _ _)).mono ?_
  iterate 4 omega
  rintro e w1 ⟨X, HX, rfl, k1⟩
  have hrow : w1.heap[w.heap.size + 1]? = _ := (k1.block _ (by simp)).trans (row_new w _ _)
  have HR := Box.mk hrow; clear hrow
  have h1 : Below w.heap.size w w1 := (((Below.refl _ _).alloc (Nat.le_refl _) _).alloc (by simp) _).trans (k1.mono (by simp; omega))
  clear k1
  go_wp2_with fail
  refine (small_any _ _ _ _ _ _ ?_ ?_ ?_ ?_ HR.out).mono ?_
  iterate 4 omega
  rintro e w2 ⟨Y, HY, rfl, k2⟩
  have h2 := bthen h1 k2; clear h1 k2 HR
  have HX2 : Box (X = sc a.toNat) := ⟨by rw [HX.out]; congr 1; omega⟩
  have HY2 : Box (Y = sc b.toNat) := ⟨by rw [HY.out]; congr 1; omega⟩
  clear HX HY f1 f2 f3 g1 g2 g3
  go_wp2_with fail
  refine (add_ok X Y (by rw [HX2.out, sc_size]) (by rw [HY2.out, sc_size]) _).mono ?_
  rintro e w3 ⟨S, HS, rfl, k3⟩
  have h3 := bthen h2 k3; clear h2 k3
  go_wp2_with fail
  refine (mul_ok X Y (by rw [HX2.out, sc_size]) (by rw [HY2.out, sc_size]) _).mono ?_
  rintro e w4 ⟨P, HP, rfl, k4⟩
  have h4 := bthen h3 k4; clear h3 k4
  go_wp2_with fail
  refine (fixed_any _).mono ?_
  rintro e w5 ⟨rfl, k5⟩
  have h5 := bthen h4 k5; clear h4 k5
  go_wp2_with fail
  refine (wider_int (a + b) (by omega) _).mono ?_
  rintro e w6 ⟨M, HM, rfl, k6⟩
  have h6 := bthen h5 k6; clear h5 k6
  have q1 : (S.toList == M.toList) = true := eqT (by
    rw [HS.out, HM.out, HX2.out, HY2.out, num_sc, num_sc]
    exact sc_congr (by rw [Nat.mod_add_mod, Nat.add_mod_mod, Int.toNat_add ba.1 bb.1]))
  go_wp2_with fail
  refine (wider_int (a * b) (by omega) _).mono ?_
  rintro e w7 ⟨N, HN, rfl, k7⟩
  have h7 := bthen h6 k7; clear h6 k7
  have q2 : (P.toList == N.toList) = true := eqT (by
    rw [HP.out, HN.out, HX2.out, HY2.out, num_sc, num_sc]
    exact sc_congr (by rw [Nat.mod_mul_mod, Nat.mul_mod_mod, Int.toNat_mul ba.1 bb.1]))
  go_wp2
  go_ret
  exact ⟨rfl, h7⟩
theorem own : ownKnob Try.prog.godebug = none := by kernel_rfl
theorem laidOut : laidOutB Try.prog = true := by kernel_rfl
set_option maxRecDepth 100000 in
theorem lifted (os : Os) (started : os.Started) (H : Type) (enc : TypeId × Value → H) :
    ReturnsInHanded {} Try.checked os 9 .any (Rows.scalarSmallSpec.pre6 enc Try.prog Try.f9 Rows.scalarSmallRow.domain false) (Rows.scalarSmallSpec.post enc Try.prog Try.f9 false true false false) := by
  refine returnsInHanded_of_change (C := Try.checked) own started (by kernel_rfl) Try.func9
    (ChangeSpec.witness6 (enc := enc) (C := Try.checked) false ⟨#[], #[.int .u32 0, .int .u32 0], []⟩ 8 (by kernel_rfl) (by kernel_rfl) (by kernel_rfl) (by kernel_rfl)) ?_
  intro W base args ds gs before hval0 hW hcnd _
  have hval : ∀ (j : Nat) t v, Try.f9.params[j]? = some t → args[j]? = some v → Value.okWide Try.prog W .any base t v := hval0
  have hW' := hW
  obtain ⟨p, q, hA0, hV, rfl, hfz, hnd⟩ := hW
  have hA : DataW.TrodAll enc Try.prog W 0 (fun _ => true) true Try.f9.params.toList args.toList ds p := hA0
  rw [Try.params9] at hA hval
  obtain ⟨v0, vs0, d0, ds0, p0, q0, hargs, rfl, rfl, h0, r0⟩ := trodAll_cons hA
  obtain ⟨v1, vs1, d1, ds1, p1, q1, rfl, rfl, rfl, h1, r1⟩ := trodAll_cons r0
  obtain ⟨rfl, rfl, rfl⟩ := trodAll_nil r1
  obtain rfl : args = #[v0, v1] := by cases args; simp_all
  obtain ⟨rfl, rfl⟩ := trodVars_none hV
  obtain ⟨s0, rfl, rfl, rfl, ws0⟩ := open_int Try.underlying33 (hval 0 33 v0 rfl rfl) h0
  obtain ⟨s1, rfl, rfl, rfl, ws1⟩ := open_int Try.underlying33 (hval 1 33 v1 rfl rfl) h1
  clear hA0 hval0
  refine (walk s0 ws0 s1 ws1 W).mono fun e W' ⟨he, bel⟩ => ?_
  subst he
  exact ⟨_, rfl, _, _, _, [], _, [], hW', trodAll_mk1 (shut_bool Try.underlying4 _), (trodAll_cons_mk (shut_int Try.underlying33 ws0) (trodAll_cons_mk (shut_int Try.underlying33 ws1) trodAll_mk0)), rfl, bel.frame _, fun h => by cases h⟩

theorem proved : Rows.ScalarSmallSaid :=
  OpenClaim.holds_of_wide 9 Try.f9 rfl rfl rfl rfl rfl rfl rfl ⟨rfl, rfl, rfl, rfl, rfl⟩ rfl rfl rfl rfl rfl (by kernel_rfl) Try.func9 (by kernel_rfl)
    (of_decide_eq_true (by kernel_rfl)) (by unfold Func.isWrapper; first | (rw [if_pos (by decide +kernel)]; kernel_rfl) | (rw [if_neg (by decide +kernel)]; exact ⟨rfl, rfl⟩))
    (fun os started H enc _ => lifted os started H enc)
#print axioms proved
end Go.Proofs.Ytilehlgnkfjcpaa.scalarSmall
