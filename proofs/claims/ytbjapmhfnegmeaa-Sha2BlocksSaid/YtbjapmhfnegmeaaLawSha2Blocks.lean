/- Whatever kind, length and byte come in, the call of Sha2Blocks returns true and leaves its arguments as they were. No condition. -/
import Derived.Test.YtbjapmhfnegmeaaShaO
import Derived.Test.YtbjapmhfnegmeaaBigL
import Derived.Deep.DeepCutAuto
import Derived.Test.YtbjapmhfnegmeaaRow
import Derived.ProofKit
import Derived.OpenShut
import Derived.ShutString
import Derived.ChangeOld
namespace Go.Proofs.Ytbjapmhfnegmeaa.sha2Blocks
open Go Go.RowKit Go.ChangeShapes Go.WideShapes Go.ChangeAt Sha
open Go.ChangeMaps (open_string shut_string)
set_option linter.unusedVariables false

theorem rem300 (x : Int) (hx : -9223372036854775808 ≤ x ∧ x ≤ 9223372036854775807) : -300 < x.tmod 300 ∧ x.tmod 300 < 300 := by
  have h1 := Int.tmod_lt_of_pos x (b := 300) (by omega)
  have h2 := Int.lt_tmod_of_pos x (b := 300) (by omega)
  exact ⟨h2, h1⟩
set_option maxRecDepth 100000 in
set_option maxHeartbeats 2000000 in
theorem walk (k : Int) (wk : (Lit.int .i64 k).wf = true) (x : Int) (wx : (Lit.int .i64 x).wf = true) (f : Int) (wf : (Lit.int .u8 f).wf = true) (w : World) :
    Calls Try.prog 5 #[.int .i64 k, .int .i64 x, .int .u8 f] w fun e w' => e = .returned (.bool true) ∧ Below w.heap.size w w' := by
  have bx := bounds_i64 wx
  obtain ⟨r1, r2⟩ := rem300 x bx
  obtain ⟨r, hr⟩ : ∃ r, x.tmod 300 = r := ⟨_, rfl⟩
  rw [hr] at r1 r2
  have hrw : IntKind.i64.wrap r = r := by rw [IntKind.wrap_i64]; omega
  clear wk wx wf bx
  go_enter Try.func5, Try.ntmps5
  go_upto_if 17 with (fail)
  go_cut [7] (fun v wx => ∃ n : Nat, v = .int .i64 n ∧ n ≤ 300 ∧ w = wx)
  case first =>
    by_cases h : r < 0
    · have hw2 : IntKind.i64.wrap (r + 300) = r + 300 := by rw [IntKind.wrap_i64]; omega
      obtain ⟨n, hn⟩ : ∃ n : Nat, (n : Int) = r + 300 := ⟨(r + 300).toNat, by omega⟩
      rw [← hn] at hw2
      go_wp2_with fail
      go_meet
      exact ⟨n, by rw [hn], by omega, rfl⟩
    · obtain ⟨n, hn⟩ : ∃ n : Nat, (n : Int) = r := ⟨r.toNat, by omega⟩
      have h' : ¬ r < 0 := h
      go_wp2_with fail
      go_meet
      exact ⟨n, by rw [hn], by omega, rfl⟩
  case rest =>
    obtain ⟨n, rfl, hn, rfl⟩ := hcut
    have hmk := fun w => make_room (P := Try.prog) (e := 5) (z := .int .u8 0) (by_ := 1) Try.underlying36 (by kernel_rfl) rfl n n (Nat.le_refl _) (by omega) (by omega) n n rfl rfl w
    have b0 : Box (Below w.heap.size w (w.alloc (.cells (List.replicate n (Value.int .u8 0)).toArray 5))) := ⟨(Below.refl _ _).alloc (Nat.le_refl _) _⟩
    have r0 : Box (∃ l : List UInt8, l.length = n ∧ (w.alloc (.cells (List.replicate n (Value.int .u8 0)).toArray 5)).heap[w.heap.size]? = some (.cells (l.map byv).toArray 5 (0, 0))) := ⟨List.replicate n 0, by simp, by rw [heap_alloc_new]; simp [byv]⟩
    clear hr r1 r2 hrw
    go_wp2_with fail
    clear hmk
    go_loopw [9] (fun i wr => ∃ j : Nat, j ≤ n ∧ i = .int .i64 j ∧ (∃ l : List UInt8, l.length = n ∧ wr.heap[w.heap.size]? = some (.cells (l.map byv).toArray 5 (0, 0))) ∧ Below w.heap.size w wr) (fun i _ => n - (intOf i).toNat)
    case atStart => exact ⟨0, by omega, rfl, r0.out, b0.out⟩
    case round =>
      clear r0 b0
      obtain ⟨j, hj, rfl, ⟨l, hl, row⟩, hbel⟩ := hrel
      have HB := Box.mk hbel; have HROW := Box.mk row; have HL := Box.mk hl
      by_cases hlt : j < n
      · have hjI : (j : Int) < (n : Int) := by omega
        have hc : wr.cell? ⟨w.heap.size, j, none⟩ = some (byv (l.getD j 0)) := by
          rw [cell_of_row _ _ _ _ _ _ row, List.getElem?_toArray, List.getElem?_map, List.getElem?_eq_getElem (by omega), List.getD_eq_getElem?_getD, List.getElem?_eq_getElem (by omega)]; rfl
        unfold byv at hc
        have hf : wr.frozen? ⟨w.heap.size, j, none⟩ = false := frozen_of_row _ _ _ _ _ row
        obtain ⟨y, hy, hyl⟩ : ∃ y : Nat, IntKind.u8.wrap (f + IntKind.u8.wrap (j : Int)) = (y : Int) ∧ y < 256 := by
          refine ⟨(IntKind.u8.wrap (f + IntKind.u8.wrap (j : Int))).toNat, ?_, ?_⟩ <;> rw [IntKind.wrap_u8] <;> omega
        have hy2 : IntKind.u8.wrap (f + (j : Int) % 256) = (y : Int) := by rw [← hy, IntKind.wrap_u8 (j : Int)]
        have HY := Box.mk hyl
        clear hbel row hl hyl
        go_wp2
        refine ⟨⟨j + 1, by omega, by go_num, ⟨l.set j (UInt8.ofNat y), by simpa using HL.out, ?_⟩, HB.out.setCell (Nat.le_refl _) _⟩, by simp [intOf]; omega⟩
        rw [heap_setCell_same _ _ _ _ _ _ HROW.out, List.setIfInBounds_toArray, List.map_set]
        have : byv (UInt8.ofNat y) = .int .u8 (y : Nat) := by unfold byv; rw [UInt8.toNat_ofNat', Nat.mod_eq_of_lt HY.out]
        rw [this]
      · obtain rfl : j = n := by omega
        have hcv := run_bytes_of_row Try.prog wr w.heap.size j _ _ 36 9 5 j HL.out Try.underlying36 Try.underlying5 Try.underlying9 HROW.out
        obtain ⟨s, hs⟩ : ∃ s : ByteArray, s = ⟨l.toArray⟩ := ⟨_, rfl⟩
        have hsz : s.size ≤ 500000 := by
          have : s.size = l.length := by rw [hs]; rfl
          have := HL.out; omega
        rw [← hs] at hcv
        have HS := Box.mk hs
        by_cases hk : Kind k
        · have O1 := Box.mk (fun w => oneB_any k hk s hsz w)
          have O2 := Box.mk (fun w => Big.doneB_any k hk s hsz w)
          clear hk hbel row hl hs hsz hlt hj
          go_wp2_with fail
          refine (O1.out _).mono ?_
          rintro e w1 ⟨rfl, b1⟩
          have B1 := Box.mk (bth HB.out b1)
          have row1 := (b1.block _ (Array.getElem?_eq_some_iff.1 HROW.out).1).trans HROW.out
          have hcv2 := run_bytes_of_row Try.prog w1 w.heap.size j _ _ 36 9 5 j HL.out Try.underlying36 Try.underlying5 Try.underlying9 row1
          rw [← HS.out] at hcv2
          clear b1 row1 hcv
          go_wp2_with fail
          refine (O2.out _).mono ?_
          rintro e w2 ⟨rfl, b2⟩
          have B2 := Box.mk (bth B1.out b2); clear b2 B1
          go_wp2_with fail
          refine (fixed_any _).mono ?_
          rintro e w3 ⟨rfl, b3⟩
          have B3 := Box.mk (bth B2.out b3); clear b3 B2
          generalize sumS k s.data.toList = S
          have q1 : (S.toList == S.toList) = true := by simp
          go_wp2
          go_ret
          exact ⟨rfl, B3.out⟩
        · have O1 := Box.mk (fun w => oneB_no k hk s w)
          have O2 := Box.mk (fun w => Big.doneB_no k hk s w)
          clear hk hbel row hl hs hsz hlt hj
          go_wp2_with fail
          refine (O1.out _).mono ?_
          rintro e w1 ⟨rfl, rfl⟩
          go_wp2_with fail
          refine (O2.out _).mono ?_
          rintro e w2 ⟨rfl, rfl⟩
          go_wp2_with fail
          refine (fixed_any _).mono ?_
          rintro e w3 ⟨rfl, b3⟩
          have B3 := Box.mk (bth HB.out b3)
          go_wp2
          go_ret
          exact ⟨rfl, B3.out⟩
theorem own : ownKnob Try.prog.godebug = none := by kernel_rfl
theorem laidOut : laidOutB Try.prog = true := by kernel_rfl
set_option maxRecDepth 100000 in
theorem lifted (os : Os) (started : os.Started) (H : Type) (enc : TypeId × Value → H) :
    ReturnsInHanded {} Try.checked os 5 .any (Rows.sha2BlocksSpec.pre6 enc Try.prog Try.f5 Rows.sha2BlocksRow.domain false) (Rows.sha2BlocksSpec.post enc Try.prog Try.f5 false true false false) := by
  refine returnsInHanded_of_change (C := Try.checked) own started (by kernel_rfl) Try.func5
    (ChangeSpec.witness6 (enc := enc) (C := Try.checked) false ⟨#[], #[.int .i64 0, .int .i64 0, .int .u8 0], []⟩ 8 (by kernel_rfl) (by kernel_rfl) (by kernel_rfl) (by kernel_rfl)) ?_
  intro W base args ds gs before hval0 hW hcnd _
  have hval : ∀ (j : Nat) t v, Try.f5.params[j]? = some t → args[j]? = some v → Value.okWide Try.prog W .any base t v := hval0
  have hW' := hW
  obtain ⟨p, q, hA0, hV, rfl, hfz, hnd⟩ := hW
  have hA : DataW.TrodAll enc Try.prog W 0 (fun _ => true) true Try.f5.params.toList args.toList ds p := hA0
  rw [Try.params5] at hA hval
  obtain ⟨v0, vs0, d0, ds0, p0, q0, hargs, rfl, rfl, h0, r0⟩ := trodAll_cons hA
  obtain ⟨v1, vs1, d1, ds1, p1, q1, rfl, rfl, rfl, h1, r1⟩ := trodAll_cons r0
  obtain ⟨v2, vs2, d2, ds2, p2, q2, rfl, rfl, rfl, h2, r2⟩ := trodAll_cons r1
  obtain ⟨rfl, rfl, rfl⟩ := trodAll_nil r2
  obtain rfl : args = #[v0, v1, v2] := by cases args; simp_all
  obtain ⟨rfl, rfl⟩ := trodVars_none hV
  obtain ⟨s0, rfl, rfl, rfl, ws0⟩ := open_int Try.underlying3 (hval 0 3 v0 rfl rfl) h0
  obtain ⟨s1, rfl, rfl, rfl, ws1⟩ := open_int Try.underlying3 (hval 1 3 v1 rfl rfl) h1
  obtain ⟨s2, rfl, rfl, rfl, ws2⟩ := open_int Try.underlying5 (hval 2 5 v2 rfl rfl) h2
  clear hA0 hval0
  refine (walk s0 ws0 s1 ws1 s2 ws2 W).mono fun e W' ⟨he, bel⟩ => ?_
  subst he
  exact ⟨_, rfl, _, _, _, [], _, [], hW', trodAll_mk1 (shut_bool Try.underlying4 _), (trodAll_cons_mk (shut_int Try.underlying3 ws0) (trodAll_cons_mk (shut_int Try.underlying3 ws1) (trodAll_cons_mk (shut_int Try.underlying5 ws2) trodAll_mk0))), rfl, bel.frame _, fun h => by cases h⟩

theorem proved : Rows.Sha2BlocksSaid :=
  OpenClaim.holds_of_wide 5 Try.f5 rfl rfl rfl rfl rfl rfl rfl ⟨rfl, rfl, rfl, rfl, rfl⟩ rfl rfl rfl rfl rfl (by kernel_rfl) Try.func5 (by kernel_rfl)
    (of_decide_eq_true (by kernel_rfl)) (by unfold Func.isWrapper; first | (rw [if_pos (by decide +kernel)]; kernel_rfl) | (rw [if_neg (by decide +kernel)]; exact ⟨rfl, rfl⟩))
    (fun os started H enc _ => lifted os started H enc)
#print axioms proved
end Go.Proofs.Ytbjapmhfnegmeaa.sha2Blocks
