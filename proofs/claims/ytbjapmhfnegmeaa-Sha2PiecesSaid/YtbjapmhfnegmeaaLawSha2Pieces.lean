/- Whatever kind and whatever strings come in, the call of Sha2Pieces returns true and leaves its arguments as they were. No condition. -/
import Derived.Test.YtbjapmhfnegmeaaShaO
import Derived.Test.YtbjapmhfnegmeaaStrs
import Derived.Carry
import Derived.ProofKit
import Derived.OpenShut
import Derived.ShutString
import Derived.ChangeOld
namespace Go.Proofs.Ytbjapmhfnegmeaa.sha2Pieces
open Go Go.RowKit Go.ChangeShapes Go.WideShapes Go.ChangeAt Sha
open Go.ChangeMaps (open_string shut_string)
set_option linter.unusedVariables false

set_option maxRecDepth 100000 in
set_option maxHeartbeats 4000000 in
theorem walk (k : Int) (wk : (Lit.int .i64 k).wf = true) (v : Value) (l : List ByteArray) (w : World) (hl : Strs w v l) :
    Calls Try.prog 4 #[.int .i64 k, v] w fun e w' => e = .returned (.bool true) ∧ Below w.heap.size w w' := by
  clear wk
  obtain ⟨ao, cap, rfl, hlen, hcells⟩ := hl
  unfold maxLen at hlen
  have HCELLS := Box.mk hcells; clear hcells
  by_cases hk : Kind k
  · have N1 := Box.mk (fun w => newB_any k hk w)
    have HK := Box.mk hk; clear hk
    go_enter Try.func4, Try.ntmps4
    go_wp2_with fail
    refine (N1.out _).mono ?_
    rintro e w1 ⟨p, rfl, hp, hs, k1⟩
    have HB0 := Box.mk k1; have HS0 := Box.mk hs; clear k1 hs N1
    go_wp2_with fail
    go_loopw [5, 9, 10] (fun h al i wr => ∃ (i' p : Nat) (all : ByteArray), i = .int .i64 i' ∧ h = .pointer (some ⟨p, 0, none⟩) ∧ al = .string all ∧ w.heap.size ≤ p ∧ HasB k wr p all.data.toList ∧ all.size ≤ 4000 ∧ Below w.heap.size w wr) (fun _ _ i _ => l.length - (intOf i).toNat)
    case atStart => exact ⟨0, p, ⟨#[]⟩, rfl, rfl, rfl, hp, HS0.out, by decide, HB0.out⟩
    case round =>
      clear HB0 HS0 hp
      obtain ⟨i, p, all, rfl, rfl, rfl, hp, hs, hall, hb⟩ := hrel
      have HS := Box.mk hs; have HB := Box.mk hb; clear hs hb
      by_cases hlt : i < l.length
      · have hltI : (i : Int) < (l.length : Int) := by omega
        by_cases h60 : i < 60
        · have h60I : (i : Int) < 60 := by omega
          obtain ⟨s, hs⟩ : ∃ s, l[i]? = some s := ⟨_, List.getElem?_eq_getElem hlt⟩
          obtain ⟨a, rfl, ha, hc, hsm⟩ := HCELLS.out i s hs
          have hcell : ∀ w', Below w.heap.size w w' → w'.cell? (a.add i) = some (.string s) := fun w' hb => by
            have hq : (a.add i).block = a.block := by unfold Addr.add; split <;> rfl
            exact (hb.cell (by rw [hq]; exact ha)).trans hc
          have c0 := hcell _ HB.out
          have HCELL := Box.mk hcell
          clear hcell hc hs hsm ha
          by_cases hfit : all.size + s.size ≤ 4000
          · have hfI : ¬ (4000 - (all.size : Int) < (s.size : Int)) := by omega
            have h9 : ¬ 9223372036854775807 < all.size + s.size := by omega
            have HAL : Box (all.data.toList.length ≤ 4000) := ⟨by rw [size_list]; exact hall⟩
            by_cases h7' : i % 7 = 3
            · by_cases h5' : i % 5 = 2
              · have h7 : ((i : Int) % 7 == 3) = true := by simp; omega
                have h5 : ((i : Int) % 5 == 2) = true := by simp; omega
                clear h7' h5'
                go_wp2_with fail
                refine (cloneB_any k p _ _ HS.out).mono ?_
                rintro e w1 ⟨q, rfl, hq, hc, k1⟩
                have hne : p ≠ q := by have := HS.out.lt; omega
                have B1 := Box.mk (bth HB.out k1); have HS1 := Box.mk (HS.out.below k1); have HC1 := Box.mk hc; have hqw : w.heap.size ≤ q := Nat.le_trans HB.out.size hq; clear hc hq HB HS
                have c1 := HCELL.out _ B1.out
                clear k1 c0
                go_wp2_with fail
                refine (writeB_any k p _ s _ HS1.out (by omega) (by have := HAL.out; omega)).mono ?_
                rintro e w2 ⟨rfl, hs2, hu2⟩
                have B2 := Box.mk (bthU B1.out hu2 hp); have HS2 := Box.mk hs2; have HC2 := Box.mk (HC1.out.upd hu2 hne.symm); clear hs2 hu2 B1 HS1 HC1
                have c2 := HCELL.out _ B2.out
                clear c1
                go_wp2_with fail
                refine (writeB_any k q _ ⟨#[108, 101, 102, 116, 32, 98, 101, 104, 105, 110, 100]⟩ _ HC2.out (by decide) (by have := HAL.out; omega)).mono ?_
                rintro e w3 ⟨rfl, hs3, hu3⟩
                have B3 := Box.mk (bthU B2.out hu3 hqw); have HS3 := Box.mk (HS2.out.upd hu3 hne); clear hs3 hu3 B2 HS2 HC2 c2
                go_wp2_with fail
                refine (cloneB_any k p _ _ HS3.out).mono ?_
                rintro e w4 ⟨p4, rfl, hp4, hc4, k4⟩
                have hp4w : w.heap.size ≤ p4 := Nat.le_trans B3.out.size hp4
                have B4 := Box.mk (bth B3.out k4); have HS4 := Box.mk hc4; clear k4 hc4 B3 HS3
                go_wp2_with fail
                refine (sumB_any k p4 _ _ HS4.out (by rw [List.length_append, size_list s]; have := HAL.out; omega)).mono ?_
                rintro e w5 ⟨rfl, k5⟩
                have B5 := Box.mk (bth B4.out k5); have HS5 := Box.mk (HS4.out.below k5); clear k5 B4 HS4
                go_wp2_with fail
                refine (sumB_any k p4 _ _ HS5.out (by rw [List.length_append, size_list s]; have := HAL.out; omega)).mono ?_
                rintro e w6 ⟨rfl, k6⟩
                have B6 := Box.mk (bth B5.out k6); have HS6 := Box.mk (HS5.out.below k6); clear k6 B5 HS5
                generalize sumS k (all.data.toList ++ s.data.toList) = T
                have q2 : (T.toList == T.toList) = true := by simp
                have q3 : (T.toList != T.toList) = false := by simp
                go_wp2
                refine ⟨⟨i + 1, p4, all ++ s, by go_num, rfl, rfl, hp4w, by rw [show (all ++ s).data.toList = all.data.toList ++ s.data.toList from by simp]; exact HS6.out, by rw [ByteArray.size_append]; omega, B6.out⟩, by simp [intOf]; omega⟩
              · have h7 : ((i : Int) % 7 == 3) = true := by simp; omega
                have h5 : ((i : Int) % 5 == 2) = false := by simp; omega
                clear h7' h5'
                go_wp2_with fail
                refine (cloneB_any k p _ _ HS.out).mono ?_
                rintro e w1 ⟨q, rfl, hq, hc, k1⟩
                have hne : p ≠ q := by have := HS.out.lt; omega
                have B1 := Box.mk (bth HB.out k1); have HS1 := Box.mk (HS.out.below k1); have HC1 := Box.mk hc; have hqw : w.heap.size ≤ q := Nat.le_trans HB.out.size hq; clear hc hq HB HS
                have c1 := HCELL.out _ B1.out
                clear k1 c0
                go_wp2_with fail
                refine (writeB_any k p _ s _ HS1.out (by omega) (by have := HAL.out; omega)).mono ?_
                rintro e w2 ⟨rfl, hs2, hu2⟩
                have B2 := Box.mk (bthU B1.out hu2 hp); have HS2 := Box.mk hs2; have HC2 := Box.mk (HC1.out.upd hu2 hne.symm); clear hs2 hu2 B1 HS1 HC1
                have c2 := HCELL.out _ B2.out
                clear c1
                go_wp2_with fail
                refine (writeB_any k q _ ⟨#[108, 101, 102, 116, 32, 98, 101, 104, 105, 110, 100]⟩ _ HC2.out (by decide) (by have := HAL.out; omega)).mono ?_
                rintro e w3 ⟨rfl, hs3, hu3⟩
                have B3 := Box.mk (bthU B2.out hu3 hqw); have HS3 := Box.mk (HS2.out.upd hu3 hne); clear hs3 hu3 B2 HS2 HC2 c2
                go_wp2_with fail
                refine (cloneB_any k p _ _ HS3.out).mono ?_
                rintro e w4 ⟨p4, rfl, hp4, hc4, k4⟩
                have hp4w : w.heap.size ≤ p4 := Nat.le_trans B3.out.size hp4
                have B4 := Box.mk (bth B3.out k4); have HS4 := Box.mk hc4; clear k4 hc4 B3 HS3
                go_wp2
                refine ⟨⟨i + 1, p4, all ++ s, by go_num, rfl, rfl, hp4w, by rw [show (all ++ s).data.toList = all.data.toList ++ s.data.toList from by simp]; exact HS4.out, by rw [ByteArray.size_append]; omega, B4.out⟩, by simp [intOf]; omega⟩
            · by_cases h5' : i % 5 = 2
              · have h7 : ((i : Int) % 7 == 3) = false := by simp; omega
                have h5 : ((i : Int) % 5 == 2) = true := by simp; omega
                clear h7' h5'
                go_wp2_with fail
                refine (cloneB_any k p _ _ HS.out).mono ?_
                rintro e w1 ⟨q, rfl, hq, hc, k1⟩
                have hne : p ≠ q := by have := HS.out.lt; omega
                have B1 := Box.mk (bth HB.out k1); have HS1 := Box.mk (HS.out.below k1); have HC1 := Box.mk hc; have hqw : w.heap.size ≤ q := Nat.le_trans HB.out.size hq; clear hc hq HB HS
                have c1 := HCELL.out _ B1.out
                clear k1 c0
                go_wp2_with fail
                refine (writeB_any k p _ s _ HS1.out (by omega) (by have := HAL.out; omega)).mono ?_
                rintro e w2 ⟨rfl, hs2, hu2⟩
                have B2 := Box.mk (bthU B1.out hu2 hp); have HS2 := Box.mk hs2; have HC2 := Box.mk (HC1.out.upd hu2 hne.symm); clear hs2 hu2 B1 HS1 HC1
                have c2 := HCELL.out _ B2.out
                clear c1
                go_wp2_with fail
                refine (writeB_any k q _ ⟨#[108, 101, 102, 116, 32, 98, 101, 104, 105, 110, 100]⟩ _ HC2.out (by decide) (by have := HAL.out; omega)).mono ?_
                rintro e w3 ⟨rfl, hs3, hu3⟩
                have B3 := Box.mk (bthU B2.out hu3 hqw); have HS3 := Box.mk (HS2.out.upd hu3 hne); clear hs3 hu3 B2 HS2 HC2 c2
                go_wp2_with fail
                refine (sumB_any k p _ _ HS3.out (by rw [List.length_append, size_list s]; have := HAL.out; omega)).mono ?_
                rintro e w5 ⟨rfl, k5⟩
                have B5 := Box.mk (bth B3.out k5); have HS5 := Box.mk (HS3.out.below k5); clear k5 B3 HS3
                go_wp2_with fail
                refine (sumB_any k p _ _ HS5.out (by rw [List.length_append, size_list s]; have := HAL.out; omega)).mono ?_
                rintro e w6 ⟨rfl, k6⟩
                have B6 := Box.mk (bth B5.out k6); have HS6 := Box.mk (HS5.out.below k6); clear k6 B5 HS5
                generalize sumS k (all.data.toList ++ s.data.toList) = T
                have q2 : (T.toList == T.toList) = true := by simp
                have q3 : (T.toList != T.toList) = false := by simp
                go_wp2
                refine ⟨⟨i + 1, p, all ++ s, by go_num, rfl, rfl, hp, by rw [show (all ++ s).data.toList = all.data.toList ++ s.data.toList from by simp]; exact HS6.out, by rw [ByteArray.size_append]; omega, B6.out⟩, by simp [intOf]; omega⟩
              · have h7 : ((i : Int) % 7 == 3) = false := by simp; omega
                have h5 : ((i : Int) % 5 == 2) = false := by simp; omega
                clear h7' h5'
                go_wp2_with fail
                refine (cloneB_any k p _ _ HS.out).mono ?_
                rintro e w1 ⟨q, rfl, hq, hc, k1⟩
                have hne : p ≠ q := by have := HS.out.lt; omega
                have B1 := Box.mk (bth HB.out k1); have HS1 := Box.mk (HS.out.below k1); have HC1 := Box.mk hc; have hqw : w.heap.size ≤ q := Nat.le_trans HB.out.size hq; clear hc hq HB HS
                have c1 := HCELL.out _ B1.out
                clear k1 c0
                go_wp2_with fail
                refine (writeB_any k p _ s _ HS1.out (by omega) (by have := HAL.out; omega)).mono ?_
                rintro e w2 ⟨rfl, hs2, hu2⟩
                have B2 := Box.mk (bthU B1.out hu2 hp); have HS2 := Box.mk hs2; have HC2 := Box.mk (HC1.out.upd hu2 hne.symm); clear hs2 hu2 B1 HS1 HC1
                have c2 := HCELL.out _ B2.out
                clear c1
                go_wp2_with fail
                refine (writeB_any k q _ ⟨#[108, 101, 102, 116, 32, 98, 101, 104, 105, 110, 100]⟩ _ HC2.out (by decide) (by have := HAL.out; omega)).mono ?_
                rintro e w3 ⟨rfl, hs3, hu3⟩
                have B3 := Box.mk (bthU B2.out hu3 hqw); have HS3 := Box.mk (HS2.out.upd hu3 hne); clear hs3 hu3 B2 HS2 HC2 c2
                go_wp2
                refine ⟨⟨i + 1, p, all ++ s, by go_num, rfl, rfl, hp, by rw [show (all ++ s).data.toList = all.data.toList ++ s.data.toList from by simp]; exact HS3.out, by rw [ByteArray.size_append]; omega, B3.out⟩, by simp [intOf]; omega⟩
          · have hfI : 4000 - (all.size : Int) < (s.size : Int) := by omega
            have O1 := Box.mk (fun w => oneB_any k HK.out all (by omega) w)
            have hal : all.data.toList.length ≤ 4000 := by rw [size_list]; omega
            have HAL := Box.mk hal; clear hal
            go_wp2_with fail
            refine (O1.out _).mono ?_
            rintro e w6 ⟨rfl, k6⟩
            have B6 := Box.mk (bth HB.out k6); have HS6 := Box.mk (HS.out.below k6); clear k6 HB HS
            go_wp2_with fail
            refine (fixed_any _).mono ?_
            rintro e w7 ⟨rfl, k7⟩
            have B7 := Box.mk (bth B6.out k7); have HS7 := Box.mk (HS6.out.below k7); clear k7 B6 HS6
            generalize hT : sumS k all.data.toList = T
            have HT := Box.mk hT; clear hT
            have q1 : (T.toList == T.toList) = true := by simp
            go_wp2_with fail
            refine (sumB_any k p _ _ HS7.out (by have := HAL.out; omega)).mono ?_
            rintro e w8 ⟨rfl, k8⟩
            rw [HT.out]
            have B8 := Box.mk (bth B7.out k8); have HS8 := Box.mk (HS7.out.below k8); clear k8 B7 HS7
            go_wp2_with fail
            refine (sizeB_any k p _ _ HS8.out).mono ?_
            rintro e w9 ⟨rfl, rfl⟩
            rw [size_list]
            go_wp2_with fail
            refine (sumB_any k p _ _ HS8.out (by have := HAL.out; omega)).mono ?_
            rintro e w10 ⟨rfl, k10⟩
            rw [HT.out]
            have B10 := Box.mk (bth B8.out k10); clear k10 B8 HS8
            go_wp2
            go_ret
            exact ⟨rfl, B10.out⟩
        · have h60I : ¬ (i : Int) < 60 := by omega
          have O1 := Box.mk (fun w => oneB_any k HK.out all (by omega) w)
          have hal : all.data.toList.length ≤ 4000 := by rw [size_list]; omega
          have HAL := Box.mk hal; clear hal
          go_wp2_with fail
          refine (O1.out _).mono ?_
          rintro e w6 ⟨rfl, k6⟩
          have B6 := Box.mk (bth HB.out k6); have HS6 := Box.mk (HS.out.below k6); clear k6 HB HS
          go_wp2_with fail
          refine (fixed_any _).mono ?_
          rintro e w7 ⟨rfl, k7⟩
          have B7 := Box.mk (bth B6.out k7); have HS7 := Box.mk (HS6.out.below k7); clear k7 B6 HS6
          generalize hT : sumS k all.data.toList = T
          have HT := Box.mk hT; clear hT
          have q1 : (T.toList == T.toList) = true := by simp
          go_wp2_with fail
          refine (sumB_any k p _ _ HS7.out (by have := HAL.out; omega)).mono ?_
          rintro e w8 ⟨rfl, k8⟩
          rw [HT.out]
          have B8 := Box.mk (bth B7.out k8); have HS8 := Box.mk (HS7.out.below k8); clear k8 B7 HS7
          go_wp2_with fail
          refine (sizeB_any k p _ _ HS8.out).mono ?_
          rintro e w9 ⟨rfl, rfl⟩
          rw [size_list]
          go_wp2_with fail
          refine (sumB_any k p _ _ HS8.out (by have := HAL.out; omega)).mono ?_
          rintro e w10 ⟨rfl, k10⟩
          rw [HT.out]
          have B10 := Box.mk (bth B8.out k10); clear k10 B8 HS8
          go_wp2
          go_ret
          exact ⟨rfl, B10.out⟩
      · have hltI : ¬ (i : Int) < (l.length : Int) := by omega
        have O1 := Box.mk (fun w => oneB_any k HK.out all (by omega) w)
        have hal : all.data.toList.length ≤ 4000 := by rw [size_list]; omega
        have HAL := Box.mk hal; clear hal
        go_wp2_with fail
        refine (O1.out _).mono ?_
        rintro e w6 ⟨rfl, k6⟩
        have B6 := Box.mk (bth HB.out k6); have HS6 := Box.mk (HS.out.below k6); clear k6 HB HS
        go_wp2_with fail
        refine (fixed_any _).mono ?_
        rintro e w7 ⟨rfl, k7⟩
        have B7 := Box.mk (bth B6.out k7); have HS7 := Box.mk (HS6.out.below k7); clear k7 B6 HS6
        generalize hT : sumS k all.data.toList = T
        have HT := Box.mk hT; clear hT
        have q1 : (T.toList == T.toList) = true := by simp
        go_wp2_with fail
        refine (sumB_any k p _ _ HS7.out (by have := HAL.out; omega)).mono ?_
        rintro e w8 ⟨rfl, k8⟩
        rw [HT.out]
        have B8 := Box.mk (bth B7.out k8); have HS8 := Box.mk (HS7.out.below k8); clear k8 B7 HS7
        go_wp2_with fail
        refine (sizeB_any k p _ _ HS8.out).mono ?_
        rintro e w9 ⟨rfl, rfl⟩
        rw [size_list]
        go_wp2_with fail
        refine (sumB_any k p _ _ HS8.out (by have := HAL.out; omega)).mono ?_
        rintro e w10 ⟨rfl, k10⟩
        rw [HT.out]
        have B10 := Box.mk (bth B8.out k10); clear k10 B8 HS8
        go_wp2
        go_ret
        exact ⟨rfl, B10.out⟩
  · have N1 := Box.mk (fun w => new_no k w (fun e => hk (.inl e)) (fun e => hk (.inr e)))
    have O1 := Box.mk (fun w => oneB_no k hk ⟨#[]⟩ w)
    clear hk
    go_enter Try.func4, Try.ntmps4
    go_wp2_with fail
    refine (N1.out _).mono ?_
    rintro e w1 ⟨rfl, rfl⟩
    go_wp2_with fail
    refine (O1.out _).mono ?_
    rintro e w2 ⟨rfl, rfl⟩
    go_wp2_with fail
    refine (fixed_any _).mono ?_
    rintro e w8 ⟨rfl, k8⟩
    go_wp2
    go_ret
    exact ⟨rfl, k8⟩
theorem own : ownKnob Try.prog.godebug = none := by kernel_rfl
theorem laidOut : laidOutB Try.prog = true := by kernel_rfl
set_option maxRecDepth 100000 in
theorem lifted (os : Os) (started : os.Started) (H : Type) (enc : TypeId × Value → H) :
    ReturnsInHanded {} Try.checked os 4 .any (Rows.sha2PiecesSpec.pre6 enc Try.prog Try.f4 Rows.sha2PiecesRow.domain false) (Rows.sha2PiecesSpec.post enc Try.prog Try.f4 false true false false) := by
  refine returnsInHanded_of_change (C := Try.checked) own started (by kernel_rfl) Try.func4
    (ChangeSpec.witness6 (enc := enc) (C := Try.checked) false ⟨#[], #[.int .i64 0, .slice none 0 0], []⟩ 8 (by kernel_rfl) (by kernel_rfl) (by kernel_rfl) (by kernel_rfl)) ?_
  intro W base args ds gs before hval0 hW hcnd _
  have hval : ∀ (j : Nat) t v, Try.f4.params[j]? = some t → args[j]? = some v → Value.okWide Try.prog W .any base t v := hval0
  have hW' := hW
  obtain ⟨p, q, hA0, hV, rfl, hfz, hnd⟩ := hW
  have hA : DataW.TrodAll enc Try.prog W 0 (fun _ => true) true Try.f4.params.toList args.toList ds p := hA0
  rw [Try.params4] at hA hval
  obtain ⟨v0, vs0, d0, ds0, p0, q0, hargs, rfl, rfl, h0, r0⟩ := trodAll_cons hA
  obtain ⟨v1, vs1, d1, ds1, p1, q1, rfl, rfl, rfl, h1, r1⟩ := trodAll_cons r0
  obtain ⟨rfl, rfl, rfl⟩ := trodAll_nil r1
  obtain rfl : args = #[v0, v1] := by cases args; simp_all
  obtain ⟨rfl, rfl⟩ := trodVars_none hV
  obtain ⟨s0, rfl, rfl, rfl, ws0⟩ := open_int Try.underlying3 (hval 0 3 v0 rfl rfl) h0
  obtain ⟨l1, hs1⟩ := open_strs Try.underlying27 Try.underlying9 (by kernel_rfl) (hval 1 27 v1 rfl rfl) h1
  clear hA0 hval0
  refine (walk s0 ws0 v1 l1 W hs1).mono fun e W' ⟨he, bel⟩ => ?_
  subst he
  exact ⟨_, rfl, _, _, _, [], _, [], hW', trodAll_mk1 (shut_bool Try.underlying4 _), (trodAll_cons_mk (shut_int Try.underlying3 ws0) (trodAll_cons_mk (Below.trod laidOut (by kernel_rfl) (of_decide_eq_true (by kernel_rfl)) h1 bel (by obtain ⟨f, hf⟩ := h1; exact DataW.trod_lt _ _ _ _ hf)) trodAll_mk0)), rfl, bel.frame _, fun h => by cases h⟩

theorem proved : Rows.Sha2PiecesSaid :=
  OpenClaim.holds_of_wide 4 Try.f4 rfl rfl rfl rfl rfl rfl rfl ⟨rfl, rfl, rfl, rfl, rfl⟩ rfl rfl rfl rfl rfl (by kernel_rfl) Try.func4 (by kernel_rfl)
    (of_decide_eq_true (by kernel_rfl)) (by unfold Func.isWrapper; first | (rw [if_pos (by decide +kernel)]; kernel_rfl) | (rw [if_neg (by decide +kernel)]; exact ⟨rfl, rfl⟩))
    (fun os started H enc _ => lifted os started H enc)
#print axioms proved
end Go.Proofs.Ytbjapmhfnegmeaa.sha2Pieces
