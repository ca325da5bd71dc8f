/- Whatever string comes in, the call of SignKeys returns true and leaves its argument as it was. No condition. -/
import Derived.Test.YtedmkpdohffigaaM28
import Derived.ProofKit
import Derived.OpenShut
import Derived.ShutString
import Derived.ChangeOld
namespace Go.Proofs.Ytedmkpdohffigaa.signKeys
open Go Go.RowKit Go.ChangeShapes Go.WideShapes Go.ChangeAt Fe
open Go.ChangeMaps (open_string shut_string)
set_option linter.unusedVariables false

set_option maxRecDepth 100000 in
set_option maxHeartbeats 4000000 in
theorem walk (seed : ByteArray) (wseed : seed.size ≤ maxLen) (w : World) :
    Calls Try.prog 6 #[.string seed] w fun e w' => e = .returned (.bool true) ∧ Below w.heap.size w w' := by
  clear wseed
  by_cases h : seed.size = 32
  ·
    have hsI : (seed.size : Int) = 32 := by omega
    have HPU := Box.mk (public_yes seed h)
    obtain ⟨LS, hLS⟩ : ∃ s, s = sbytes ordL := ⟨_, rfl⟩
    have HLS := Box.mk (show LS.size = 32 ∧ Go.Proofs.Ytedmkpdohffigaa.num LS = oL from ⟨by rw [hLS]; exact sbytes_size _, by rw [hLS]; exact num_order⟩)
    have HCV := Box.mk (fun v b h => hLS ▸ order_str v b h)
    clear hLS h
    have hmk : ∀ w, (Instr.makeSlice 34 (.int .i64 32) (.int .i64 32)).run Try.prog w = .ok (.slice (some ⟨w.heap.size, 0, none⟩) 32 32) (w.alloc (.cells (bcells 0 0 32) 5)) := fun _ => by kernel_rfl
    go_enter Try.func6, Try.ntmps6
    go_wp2_with fail
    refine (HPU.out _).mono ?_
    rintro e w1 ⟨K, HK, rfl, k⟩
    have G := Box.mk (Gr.of k); clear k
    go_wp2_with fail
    refine (lfixed7 _).mono ?_
    rintro e w2 ⟨rfl, k⟩
    replace G := Box.mk (G.out.trans (Gr.of k)); clear k
    go_wp2_with fail
    refine (refL_any _).mono ?_
    rintro e wL ⟨P, hP, rfl, hl, hb1⟩
    obtain ⟨bl, hbl⟩ : ∃ b, b = w2.heap.size := ⟨_, rfl⟩
    have gl : wL.heap[bl]? = some (.cells (bcells ordL 0 32) 5 (0, 0)) := by rw [hbl]; exact (Gr.of hb1).block (by rw [heap_alloc_new]; simp [bcells])
    have nbl : w.heap.size ≤ bl := by rw [hbl]; exact G.out.size
    have nPl : P ≠ bl := by rw [World.size_alloc] at hP; omega
    replace G := Box.mk ((G.out.trans (Gr.alloc _ _)).trans (Gr.of hb1))
    have GL := Box.mk gl; have HL := Box.mk hl
    rw [← hbl]
    clear gl hl hb1 hP hbl hmk
    go_wp2_with fail
    go_loopw [7] (fun i wr => ∃ k : Nat, k ≤ 32 ∧ i = .int .i64 k ∧ wr.heap[bl]? = some (.cells (bcells ordL k 32) 5 (0, 0)) ∧ DRow wr P 32 ordL ∧ Gr w wr) (fun i _ => 32 - (intOf i).toNat)
    case atStart => exact ⟨0, by omega, rfl, GL.out, HL.out, G.out⟩
    case round =>
      clear GL HL G
      obtain ⟨k, hk, rfl, hrow, hdr, hb3⟩ := hrel
      have GL := Box.mk hrow; have HL := Box.mk hdr; have G := Box.mk hb3
      by_cases hlt : k < 32
      · have c1 := hdr k (by omega)
        have c2 : wr.cell? ⟨bl, k, none⟩ = some (.int .u8 ((if k < k then ordL / 256 ^ k % 256 else 0 : Nat) : Int)) := by
          rw [cell_of_row _ _ _ _ _ _ hrow]; simp [bcells, hlt]
        have f2 : wr.frozen? ⟨bl, k, none⟩ = false := frozen_of_row _ _ _ _ _ hrow
        have hbd := digit_bd ordL k
        clear hrow hdr hb3
        go_wp2
        go_roundw
        case rel =>
          refine ⟨k + 1, by omega, by go_num, ?_, ?_, G.out.setCell (p := ⟨bl, k, none⟩) nbl _⟩
          · rw [heap_setCell_same _ _ _ _ _ _ GL.out, digit_eq, bcells_step]
          · exact fun j hj => (cell_same (heap_setCell_other _ _ _ _ nPl) j).trans (HL.out j hj)
        case measure => simp [intOf]; omega
      · obtain rfl : k = 32 := by omega
        clear hrow hdr hb3 HL hlt
        have hcv := HCV.out wr bl GL.out
        go_wp2_with fail
        refine (cmul HK.out HLS.out.1 _).mono ?_
        rintro e w3 ⟨Z, HZ, rfl, k⟩
        replace G := Box.mk (G.out.trans (Gr.of k)); clear k
        go_wp2_with fail
        refine (cis HK.out _).mono ?_
        rintro e w4 ⟨rfl, k⟩
        replace G := Box.mk (G.out.trans (Gr.of k)); clear k
        go_wp2_with fail
        refine (czero _).mono ?_
        rintro e w5 ⟨Z0, HZ0, rfl, k⟩
        replace G := Box.mk (G.out.trans (Gr.of k)); clear k
        have q1 : (Z.toList == Z0.toList) = true := HZ.out.same HZ0.out (by rw [HLS.out.2, ← CP.mul_mul, Nat.mul_comm, CP.mul_mul, base_order, CP.zero_mul])
        go_wp2
        go_ret
        exact ⟨rfl, G.out⟩
  ·
    have hsI : ((seed.size : Int) == 32) = false := by rw [beq_eq_false_iff_ne]; omega
    have hsN : ((seed.size : Int) != 32) = true := by rw [bne, hsI]; rfl
    have HPU := Box.mk (public_no seed h)
    clear h
    go_enter Try.func6, Try.ntmps6
    go_wp2_with fail
    refine (HPU.out _).mono ?_
    rintro e w6 ⟨rfl, k⟩
    have G := Box.mk (Gr.of k); clear k
    go_wp2_with fail
    refine (lfixed7 _).mono ?_
    rintro e w7 ⟨rfl, k⟩
    replace G := Box.mk (G.out.trans (Gr.of k)); clear k
    go_wp2_with fail
    refine (lfixed7 _).mono ?_
    rintro e w8 ⟨rfl, k⟩
    replace G := Box.mk (G.out.trans (Gr.of k)); clear k
    go_wp2
    go_ret
    exact ⟨rfl, G.out⟩
theorem own : ownKnob Try.prog.godebug = none := by kernel_rfl
theorem laidOut : laidOutB Try.prog = true := by kernel_rfl
set_option maxRecDepth 100000 in
theorem lifted (os : Os) (started : os.Started) (H : Type) (enc : TypeId × Value → H) :
    ReturnsInHanded {} Try.checked os 6 .any (Rows.signKeysSpec.pre6 enc Try.prog Try.f6 Rows.signKeysRow.domain false) (Rows.signKeysSpec.post enc Try.prog Try.f6 false true false false) := by
  refine returnsInHanded_of_change (C := Try.checked) own started (by kernel_rfl) Try.func6
    (ChangeSpec.witness6 (enc := enc) (C := Try.checked) false ⟨#[], #[.string ⟨#[]⟩], []⟩ 8 (by kernel_rfl) (by kernel_rfl) (by kernel_rfl) (by kernel_rfl)) ?_
  intro W base args ds gs before hval0 hW hcnd _
  have hval : ∀ (j : Nat) t v, Try.f6.params[j]? = some t → args[j]? = some v → Value.okWide Try.prog W .any base t v := hval0
  have hW' := hW
  obtain ⟨p, q, hA0, hV, rfl, hfz, hnd⟩ := hW
  have hA : DataW.TrodAll enc Try.prog W 0 (fun _ => true) true Try.f6.params.toList args.toList ds p := hA0
  rw [Try.params6] at hA hval
  obtain ⟨v0, vs0, d0, ds0, p0, q0, hargs, rfl, rfl, h0, r0⟩ := trodAll_cons hA
  obtain ⟨rfl, rfl, rfl⟩ := trodAll_nil r0
  obtain rfl : args = #[v0] := by cases args; simp_all
  obtain ⟨rfl, rfl⟩ := trodVars_none hV
  obtain ⟨s0, rfl, rfl, rfl, ws0⟩ := open_string Try.underlying9 (hval 0 9 v0 rfl rfl) h0
  clear hA0 hval0
  refine (walk s0 ws0 W).mono fun e W' ⟨he, bel⟩ => ?_
  subst he
  exact ⟨_, rfl, _, _, _, [], _, [], hW', trodAll_mk1 (shut_bool Try.underlying4 _), (trodAll_cons_mk (shut_string Try.underlying9 ws0) trodAll_mk0), rfl, bel.frame _, fun h => by cases h⟩

theorem proved : Rows.SignKeysSaid :=
  OpenClaim.holds_of_wide 6 Try.f6 rfl rfl rfl rfl rfl rfl rfl ⟨rfl, rfl, rfl, rfl, rfl⟩ rfl rfl rfl rfl rfl (by kernel_rfl) Try.func6 (by kernel_rfl)
    (of_decide_eq_true (by kernel_rfl)) (by unfold Func.isWrapper; first | (rw [if_pos (by decide +kernel)]; kernel_rfl) | (rw [if_neg (by decide +kernel)]; exact ⟨rfl, rfl⟩))
    (fun os started H enc _ => lifted os started H enc)
#print axioms proved
end Go.Proofs.Ytedmkpdohffigaa.signKeys
