/- Whatever number and script come in, the call of LogsNumbers returns true and leaves its arguments as they were. No condition. -/
import Derived.Test.YtjednaendedpdaaM20
import Derived.Deep.DeepCutAuto
import Derived.Deep.CutBlock
import Derived.IntWalk
import Derived.ProofKit
import Derived.OpenShut
import Derived.ShutString
import Derived.ChangeOld
namespace Go.Proofs.Ytjednaendedpdaa.logsNumbers
set_option maxRecDepth 100000
open Go Go.RowKit Go.ChangeShapes Go.WideShapes Go.ChangeAt Sha
open Go.ChangeMaps (open_string shut_string)
set_option linter.unusedVariables false

theorem open_ops {H : Type} {enc : TypeId × Value → H} {w : World} {base : Nat} {spare : Nat → Bool} {held : Bool} {r : Reach} {b0 : Nat} {v : Value} {d : DataW H} {p : List MemPlace}
    (hv : Value.okWide Try.prog w r b0 38 v) (h : DataW.Trod enc Try.prog w base spare held 38 v d p) : ∃ l, ScriptS w v l := by
  obtain ⟨a0, len, cap, rfl⟩ := okWide_slice Try.underlying38 hv
  obtain ⟨fuel, hf⟩ := h
  exact ScriptS.of_reads Try.underlying38 Try.underlying42 (by kernel_rfl) (by kernel_rfl) rfl rfl rfl rfl rfl Try.underlying3 Try.underlying9 Try.underlying5 ⟨_, fuel, hf⟩
theorem cell_ti {w : World} {base g cap n : Nat} {l : List (Nat × Nat)} (h : w.ownsRow base 3 1 (.slice (some ⟨g, 0, none⟩) n cap) n (segN l)) (hn : n = l.length) {i : Nat} {x : Value} (hx : (segN l)[i]? = some x) : w.cell? ⟨g, i, none⟩ = some x := by
  have hi := (List.getElem?_eq_some_iff.1 hx).1
  rw [show (segN l).length = l.length by simp [segN]] at hi
  rw [h.cellAt i (by omega)]; exact hx
/-- What stands between the rounds. -/
structure NumS (w wr : World) (B g q p bb cb : Nat) (s : FS) (l : LS) (j : Nat) : Prop where
  ow : ∃ v, OwL w wr B g q p bb cb v s l
  inv : LInv 1 B s l
  st : s.Still
  num : l.newest.2 ≤ 1 + j
set_option maxHeartbeats 16000000 in
theorem walk (b : Int) (wb : (Lit.int .i64 b).wf = true) {v : Value} (l : List OpS) (w : World) (hl : ScriptS w v l) :
    Calls Try.prog 4 #[.int .i64 b, v] w fun e w' => e = .returned (.bool true) ∧ Below w.heap.size w w' := by
  obtain ⟨ao, cap, rfl, hlen, hcells⟩ := hl
  unfold maxLen at hlen
  have HCELLS := Box.mk hcells; clear hcells
  have LD := Box.mk (laidl_any b w)
  have RG := Box.mk (fun w => region_any b w)
  have hbd := bN_bd b
  generalize bN b = B at LD hbd RG
  unfold LaidL at LD
  by_cases hB4 : B < 4
  · have e1 : (bfs (B + 1)).lformat 1 B = (bfs (B + 1), ⟨[], false⟩, 140) := by unfold FS.lformat; rw [if_pos hB4]
    rw [e1] at LD
    clear hB4 hbd e1 HCELLS hlen RG
    go_enter Try.func4, Try.ntmps4
    go_wp2_with fail
    refine LD.out.mono ?_
    rintro e w1 ⟨q, p, bb, cb, p', kv, lv, rfl, hb, hlo, hq, hf, hok, hc⟩
    rcases hc with ⟨_, rfl⟩ | ⟨h, _⟩
    · have BE := Box.mk hb
      clear hb hlo hq hf hok LD
      go_wp2_with fail
      refine (lfixed_any _).mono ?_
      rintro e w2 ⟨rfl, hb⟩
      have B2 := Box.mk (BE.out.trans (hb.mono BE.out.size))
      clear hb
      go_wp2_with fail
      go_ret
      exact ⟨rfl, B2.out⟩
    · cases h
  · obtain ⟨s1, e1, st1, i1, a1, r1⟩ := lformat_inv (B := B) (by omega) hbd.2
    rw [e1] at LD
    have IST := Box.mk (And.intro i1 st1)
    have HB12 := Box.mk hbd
    clear e1 i1 st1 a1 r1 hB4 hbd
    go_enter Try.func4, Try.ntmps4
    go_wp2_with fail
    refine LD.out.mono ?_
    rintro e w1 ⟨q, p, bb, cb, p', kv, lv, rfl, hb, hlo, hq, hf, hok, hc⟩
    rcases hc with ⟨h, _⟩ | ⟨_, g, v1, rfl, hl, hg, hv⟩
    · exact absurd rfl h
    have NS0 := Box.mk (show NumS w w1 B g q p bb cb s1 ⟨[(0, 1)], false⟩ 0 from ⟨⟨v1, hl, fun k hk => by
      rcases List.mem_cons.1 hk with rfl | hk
      · exact hg
      · exact hlo k hk, hv, hb⟩, IST.out.1, IST.out.2, by show 1 ≤ 1 + 0; omega⟩)
    clear hb hlo hq hf hok hl hg hv LD IST
    go_upto_block 0 with (fail)
    go_cut [10] (fun _ wx => Below w.heap.size w wx)
    case first =>
      go_wp2_with fail
      go_loopw [10, 11, 12, 13, 14] (fun i _ _ _ _ wr => ∃ (j : Nat) (s : FS) (l1 : LS), j ≤ l.length ∧ j ≤ 100 ∧ i = .int .i64 j ∧ NumS w wr B g q p bb cb s l1 j) (fun i _ _ _ _ _ => l.length - (intOf i).toNat)
      case atStart => exact ⟨0, s1, _, Nat.zero_le _, by omega, rfl, NS0.out⟩
      case round =>
        clear NS0
        obtain ⟨j, s, l1, hj, hj100, rfl, hr⟩ := hrel
        have NS := Box.mk hr
        clear hr
        by_cases hlt : j < l.length
        · by_cases h100 : j < 100
          · have hltI : (j : Int) < (l.length : Int) := by omega
            have h100I : (j : Int) < 100 := by omega
            obtain ⟨o, ho⟩ : ∃ s, l[j]? = some s := ⟨_, List.getElem?_eq_getElem hlt⟩
            obtain ⟨a, rfl, HO⟩ := HCELLS.out j o ho
            have OA := Box.mk (fun w' (hb : Below w.heap.size w w') => ((HO.below hb HO.lt).flat))
            have OX := Box.mk HO.ok
            obtain ⟨v2, ow2⟩ := NS.out.ow
            have c0 := OA.out _ ow2.be
            have SG := Box.mk (ow2.segs NS.out.inv HB12.out.2)
            have HLT := Box.mk (And.intro hlt h100)
            have OWR := Box.mk ow2
            clear ho HO ow2 hlt h100
            go_wp2_with fail
            refine SG.out.mono ?_
            rintro e w2 ⟨gs, cp, rfl, hrow, ow, hb2⟩
            have OW2 := Box.mk ow; have R2 := Box.mk (And.intro hrow hb2.size)
            have c1 := OA.out _ ow.be
            clear ow hrow hb2 SG c0
            have STEP := Box.mk (num_step NS.out.inv NS.out.st (by have := NS.out.num; omega) o.k o.s.data.toList)
            go_upto_block 2 with (fail)
            go_cut [12] (fun x wx => ∃ v3 R, NumOut B s l1 o.k R ∧ x = .int .i64 R.2.2 ∧ OwL w wx B g q p bb cb v3 R.1 R.2.1 ∧ wx.ownsRow wr.heap.size 3 1 (.slice (some ⟨gs, 0, none⟩) l1.segs.length cp) l1.segs.length (segN l1.segs))
            case first =>
              have AP := Box.mk (OW2.out.append NS.out.inv o.s 0 (by have := OX.out.s; unfold maxLen at this; omega) (by have := NS.out.num; omega))
              have DO := Box.mk (OW2.out.oldest NS.out.inv)
              have DN := Box.mk (OW2.out.dnewest NS.out.inv)
              have KP := Box.mk (fun w3 (hu : Upd (fp g v2 p bb cb) w2 w3) => row_keeps OWR.out.lg R2.out.1 (Nat.le_refl _) hu)
              unfold nStep at STEP
              by_cases k0 : o.k = 0
              · rw [if_pos k0] at STEP
                have kI : (o.k == 0) = true := by rw [beq_iff_eq]; exact k0
                clear k0 DO DN
                go_wp2_with fail
                refine AP.out.mono ?_
                rintro e w3 ⟨rfl, ⟨v3, ow3⟩, hu⟩
                have OW3 := Box.mk ow3; have R3 := Box.mk (KP.out _ hu)
                clear ow3 hu AP
                go_wp2_with fail
                go_meet
                exact ⟨v3, _, STEP.out, rfl, OW3.out, R3.out⟩
              · rw [if_neg k0] at STEP
                have kI : (o.k == 0) = false := by rw [beq_eq_false_iff_ne]; exact k0
                clear k0 AP
                by_cases k1 : o.k = 1
                · rw [if_pos k1] at STEP
                  have kI1 : (o.k == 1) = true := by rw [beq_iff_eq]; exact k1
                  clear k1 DN
                  go_wp2_with fail
                  refine DO.out.mono ?_
                  rintro e w3 ⟨rfl, ⟨v3, ow3⟩, hu⟩
                  have OW3 := Box.mk ow3; have R3 := Box.mk (KP.out _ hu)
                  clear ow3 hu DO
                  go_wp2_with fail
                  go_meet
                  exact ⟨v3, _, STEP.out, rfl, OW3.out, R3.out⟩
                · rw [if_neg k1] at STEP
                  have kI1 : (o.k == 1) = false := by rw [beq_eq_false_iff_ne]; exact k1
                  clear k1 DO
                  by_cases k2 : o.k = 2
                  · rw [if_pos k2] at STEP
                    have kI2 : (o.k == 2) = true := by rw [beq_iff_eq]; exact k2
                    clear k2
                    go_wp2_with fail
                    refine DN.out.mono ?_
                    rintro e w3 ⟨rfl, ⟨v3, ow3⟩, hu⟩
                    have OW3 := Box.mk ow3; have R3 := Box.mk (KP.out _ hu)
                    clear ow3 hu DN
                    go_wp2_with fail
                    go_meet
                    exact ⟨v3, _, STEP.out, rfl, OW3.out, R3.out⟩
                  · rw [if_neg k2] at STEP
                    have kI2 : (o.k == 2) = false := by rw [beq_eq_false_iff_ne]; exact k2
                    clear k2 DN
                    go_wp2_with fail
                    go_meet
                    exact ⟨v2, _, STEP.out, rfl, OW2.out, R2.out.1⟩
            case rest =>
              obtain ⟨v3, R, no, rfl, ow3, hrow3⟩ := hcut
              obtain ⟨s2, l2, e2⟩ := R
              dsimp only at ow3 hrow3 ⊢
              have NO := Box.mk no; have OW3 := Box.mk ow3; have R3 := Box.mk hrow3
              clear no ow3 hrow3 STEP OW2 R2 OWR
              have SG := Box.mk (OW3.out.segs NO.out.inv HB12.out.2)
              obtain ⟨m1, hm1, hmB1, hnw1, hf1, hc1⟩ := NS.out.inv.nums
              obtain ⟨m2, hm2, hmB2, hnw2, hf2, hc2⟩ := NO.out.inv.nums
              dsimp only at SG hm2 hmB2 hnw2 hf2 hc2
              have HL1 := Box.mk hm1; have HL2 := Box.mk hm2
              have C1 := Box.mk hc1; have C2 := Box.mk hc2
              have NB : Box (l2.first + m2 ≤ 1000) := ⟨by have h1 := NO.out.num; have h2 := NS.out.num; dsimp only at h1; have h3 := HLT.out.2; omega⟩
              have FR : Box (∀ wr (h : OwL w wr B g q p bb cb v3 s2 l2), Calls Try.prog 9 #[.pointer (some ⟨g, 0, none⟩)] wr fun e w' => e = .returned (.int .i64 (B - l2.segs.length : Nat)) ∧ OwL w w' B g q p bb cb v3 s2 l2 ∧ Below wr.heap.size wr w') := ⟨fun wr h => h.free NO.out.inv⟩
              obtain ⟨fr, hfr⟩ : ∃ x, x = B - l2.segs.length := ⟨_, rfl⟩
              rw [← hfr] at FR
              have hsel : ∀ w, (Instr.field 45 (.agg #[.int .i64 1, .int .i64 (B : Nat)]) 1).run Try.prog w = .ok (.int .i64 (B : Nat)) w := fun w => by kernel_rfl
              have hA : ¬ (l2.segs.length : Int) < 1 := by omega
              have hA1 : ¬ (l1.segs.length : Int) < 1 := by omega
              have hsum : IntKind.i64.wrap ((l2.segs.length : Int) + (fr : Int)) = (B : Int) := by rw [IntKind.wrap_i64]; have := HB12.out; omega
              clear hc1 hc2 hf1 hf2 hnw1 hnw2 hmB1 hmB2 hm1 hm2 hfr
              go_wp2_with fail
              refine SG.out.mono ?_
              rintro e w4 ⟨gs2, cp2, rfl, hrow, ow, hb⟩
              have OW4 := Box.mk ow; have RN := Box.mk hrow; have RW := Box.mk (own_below R3.out hb)
              clear ow hrow hb SG OW3 R3
              go_wp2_with fail
              refine (FR.out _ OW4.out).mono ?_
              rintro e w5 ⟨rfl, ow, hb⟩
              have OW5 := Box.mk ow; have RN5 := Box.mk (own_below RN.out hb); have RW5 := Box.mk (own_below RW.out hb)
              clear ow hb OW4 RN RW
              go_wp2_with fail
              refine (FR.out _ OW5.out).mono ?_
              rintro e w6 ⟨rfl, ow, hb⟩
              have OW6 := Box.mk ow; have RN6 := Box.mk (own_below RN5.out hb); have RW6 := Box.mk (own_below RW5.out hb)
              clear ow hb OW5 RN5 RW5
              go_wp2_with fail
              refine (RG.out _).mono ?_
              rintro e w7 ⟨rfl, hb⟩
              have OW7 := Box.mk (OW6.out.same hb)
              have CN := Box.mk (fun i (hi : i ≤ m2) => cell_ti (own_below RN6.out hb) rfl (C2.out i hi))
              have CW := Box.mk (fun i (hi : i ≤ m1) => cell_ti (own_below RW6.out hb) rfl (C1.out i hi))
              have OC := Box.mk (OA.out _ OW7.out.be)
              clear hb OW6 RN6 RW6 FR
              go_wp2_with fail
              clear hA hA1 hsum hsel
              go_loopw [14] (fun k wq => ∃ i n : Nat, 1 ≤ i ∧ i ≤ l2.segs.length ∧ k = .int .i64 (i : Nat) ∧ wq = w7.drewN n) (fun k _ => l2.segs.length - (intOf k).toNat)
              case atStart => exact ⟨1, 0, Nat.le_refl _, by have := HL2.out; omega, rfl, rfl⟩
              case round =>
                obtain ⟨i, n, hi1, hi, rfl, rfl⟩ := hrel
                by_cases hlt : i < l2.segs.length
                · have hI : (i : Int) < (l2.segs.length : Int) := by omega
                  obtain ⟨i0, hi0⟩ : ∃ k, k + 1 = i := ⟨i - 1, by omega⟩
                  have d1 := CN.out i (by have := HL2.out; omega)
                  have d2 := CN.out i0 (by have := HL2.out; omega)
                  obtain ⟨N1, hN1⟩ : ∃ x : Int, x = ((l2.first + i : Nat) : Int) := ⟨_, rfl⟩
                  obtain ⟨N0, hN0⟩ : ∃ x : Int, x = ((l2.first + i0 : Nat) : Int) := ⟨_, rfl⟩
                  rw [← hN1] at d1
                  rw [← hN0] at d2
                  have hw1 : IntKind.i64.wrap ((i : Int) - 1) = (i0 : Int) := by rw [IntKind.wrap_i64]; have := HB12.out; have := NB.out; have := HL2.out; omega
                  have hw2 : IntKind.i64.wrap (N0 + 1) = N1 := by rw [IntKind.wrap_i64]; have := NB.out; have := HL2.out; omega
                  have hI0 : (i0 : Int) < (l2.segs.length : Int) := by omega
                  have HI := Box.mk (And.intro hi1 hlt)
                  have hib : (i : Int) < 2000 := by have := HL2.out; have := NB.out; omega
                  clear hN1 hN0 hi0 hlt hi1 hi
                  go_wp2_with fail
                  go_quiet (fail)
                  go_wp2_with fail
                  exact ⟨⟨i + 1, _, by omega, HI.out.2, by go_num, rfl⟩, by have := HI.out.2; simp [intOf]; omega⟩
                · have hI : ¬ (i : Int) < (l2.segs.length : Int) := by omega
                  have d1 := CN.out 0 (Nat.zero_le _)
                  have d2 := CW.out 0 (Nat.zero_le _)
                  obtain ⟨F2, hF2⟩ : ∃ x : Int, x = ((l2.first + 0 : Nat) : Int) := ⟨_, rfl⟩
                  obtain ⟨F1, hF1⟩ : ∃ x : Int, x = ((l1.first + 0 : Nat) : Int) := ⟨_, rfl⟩
                  rw [← hF2] at d1
                  rw [← hF1] at d2
                  have d3 := OC.out.1
                  have hz2 : (0 : Int) < (l2.segs.length : Int) := by have := HL2.out; omega
                  have hz1 : (0 : Int) < (l1.segs.length : Int) := by have := HL1.out; omega
                  have hwF : F1 + 1 = F2 → IntKind.i64.wrap (F1 + 1) = F2 := fun h => by rw [IntKind.wrap_i64]; have := NB.out; omega
                  have hbad : e2 ≠ 0 → ((l2.segs.length : Int) != (l1.segs.length : Int)) = false := fun h => by rw [bne_eq_false_iff_eq, NO.out.bad h]
                  have hfst : (o.k ≠ 1 ∨ e2 ≠ 0) → (F2 != F1) = false := fun h => by
                    have := NO.out.first h
                    rw [bne_eq_false_iff_eq, hF2, hF1]
                    dsimp only at this
                    rw [this]
                  have hnxt : o.k = 1 → e2 = 0 → F1 + 1 = F2 := fun h h' => by
                    have := NO.out.next h h'
                    dsimp only at this
                    rw [hF2, hF1]; omega
                  have FIN : Box (∀ n, NumS w (w7.drewN n) B g q p bb cb s2 l2 (j + 1)) := ⟨fun n => ⟨⟨v3, OW7.out.dn n⟩, NO.out.inv, NO.out.st, by have h1 := NO.out.num; have h2 := NS.out.num; dsimp only at h1; omega⟩⟩
                  clear hF1 hF2 hlt hi hi1
                  by_cases he : e2 = 0
                  · have heI : (e2 != 0) = false := by rw [bne_eq_false_iff_eq]; exact he
                    have heI2 : (e2 == 0) = true := by rw [beq_iff_eq]; exact he
                    clear hbad
                    by_cases k0 : o.k = 0
                    · have kI : (o.k == 0) = true := by rw [beq_iff_eq]; exact k0
                      have kI1 : (o.k == 1) = false := by rw [beq_eq_false_iff_ne]; omega
                      have hne := hfst (.inl (by omega))
                      clear hfst hnxt hwF he k0
                      go_wp2_with fail
                      go_quiet (fail)
                      go_wp2_with fail
                      go_quiet (fail)
                      go_wp2_with fail
                      exact ⟨⟨j + 1, s2, l2, HLT.out.1, HLT.out.2, by go_num, FIN.out _⟩, by have := HLT.out.1; simp [intOf]; omega⟩
                    · have kI : (o.k == 0) = false := by rw [beq_eq_false_iff_ne]; exact k0
                      by_cases k1 : o.k = 1
                      · have kI1 : (o.k == 1) = true := by rw [beq_iff_eq]; exact k1
                        have hw := hwF (hnxt k1 he)
                        clear hfst hnxt hwF he k0 k1
                        go_wp2_with fail
                        go_quiet (fail)
                        go_wp2_with fail
                        go_quiet (fail)
                        go_wp2_with fail
                        exact ⟨⟨j + 1, s2, l2, HLT.out.1, HLT.out.2, by go_num, FIN.out _⟩, by have := HLT.out.1; simp [intOf]; omega⟩
                      · have kI1 : (o.k == 1) = false := by rw [beq_eq_false_iff_ne]; exact k1
                        clear hfst hnxt hwF he k0 k1
                        go_wp2_with fail
                        go_quiet (fail)
                        go_wp2_with fail
                        go_quiet (fail)
                        go_wp2_with fail
                        exact ⟨⟨j + 1, s2, l2, HLT.out.1, HLT.out.2, by go_num, FIN.out _⟩, by have := HLT.out.1; simp [intOf]; omega⟩
                  · have heI : (e2 != 0) = true := by rw [bne_iff_ne]; exact he
                    have heI2 : (e2 == 0) = false := by rw [beq_eq_false_iff_ne]; exact he
                    have hlI := hbad he
                    have hne := hfst (.inr he)
                    clear hbad hfst hnxt hwF he
                    by_cases k0 : o.k = 0
                    · have kI : (o.k == 0) = true := by rw [beq_iff_eq]; exact k0
                      have kI1 : (o.k == 1) = false := by rw [beq_eq_false_iff_ne]; omega
                      clear k0
                      go_wp2_with fail
                      go_quiet (fail)
                      go_wp2_with fail
                      go_quiet (fail)
                      go_wp2_with fail
                      exact ⟨⟨j + 1, s2, l2, HLT.out.1, HLT.out.2, by go_num, FIN.out _⟩, by have := HLT.out.1; simp [intOf]; omega⟩
                    · have kI : (o.k == 0) = false := by rw [beq_eq_false_iff_ne]; exact k0
                      by_cases k1 : o.k = 1
                      · have kI1 : (o.k == 1) = true := by rw [beq_iff_eq]; exact k1
                        clear k0 k1
                        go_wp2_with fail
                        go_quiet (fail)
                        go_wp2_with fail
                        go_quiet (fail)
                        go_wp2_with fail
                        exact ⟨⟨j + 1, s2, l2, HLT.out.1, HLT.out.2, by go_num, FIN.out _⟩, by have := HLT.out.1; simp [intOf]; omega⟩
                      · have kI1 : (o.k == 1) = false := by rw [beq_eq_false_iff_ne]; exact k1
                        clear k0 k1
                        go_wp2_with fail
                        go_quiet (fail)
                        go_wp2_with fail
                        go_quiet (fail)
                        go_wp2_with fail
                        exact ⟨⟨j + 1, s2, l2, HLT.out.1, HLT.out.2, by go_num, FIN.out _⟩, by have := HLT.out.1; simp [intOf]; omega⟩
          · have h100I : ¬ (j : Int) < 100 := by omega
            have hltI : (j : Int) < (l.length : Int) := by omega
            obtain ⟨v2, ow2⟩ := NS.out.ow
            have BE := Box.mk ow2.be
            clear hlt ow2
            go_wp2_with fail
            go_meet
            exact BE.out
        · have hltI : ¬ (j : Int) < (l.length : Int) := by omega
          obtain ⟨v2, ow2⟩ := NS.out.ow
          have BE := Box.mk ow2.be
          clear hlt ow2
          go_wp2_with fail
          go_meet
          exact BE.out
    case rest =>
      have BE := Box.mk hcut
      clear hcut NS0
      go_wp2_with fail
      refine (lfixed_any _).mono ?_
      rintro e w5 ⟨rfl, hb⟩
      have BE5 := Box.mk (BE.out.trans (hb.mono BE.out.size))
      clear hb
      go_wp2_with fail
      go_ret
      exact ⟨rfl, BE5.out⟩
theorem own : ownKnob Try.prog.godebug = none := by kernel_rfl
theorem laidOut : laidOutB Try.prog = true := by kernel_rfl
set_option maxRecDepth 100000 in
theorem lifted (os : Os) (started : os.Started) (H : Type) (enc : TypeId × Value → H) :
    ReturnsInHanded {} Try.checked os 4 .any (Rows.logsNumbersSpec.pre6 enc Try.prog Try.f4 Rows.logsNumbersRow.domain false) (Rows.logsNumbersSpec.post enc Try.prog Try.f4 false true false false) := by
  refine returnsInHanded_of_change (C := Try.checked) own started (by kernel_rfl) Try.func4
    (ChangeSpec.witness6 (enc := enc) (C := Try.checked) false ⟨#[], #[.int .i64 0, .slice none 0 0], []⟩ 8 (by kernel_rfl) (by kernel_rfl) (by kernel_rfl) (by kernel_rfl)) ?_
  intro W base args ds gs before hval0 hW hcnd _
  have hval : ∀ (j : Nat) t v, Try.f4.params[j]? = some t → args[j]? = some v → Value.okWide Try.prog W .any base t v := hval0
  have hW' := hW
  obtain ⟨p, q, hA0, hV, rfl, hfz, hnd⟩ := hW
  have hA : DataW.TrodAll enc Try.prog W 0 (fun _ => true) true Try.f4.params.toList args.toList ds p := hA0
  rw [Try.params4] at hA hval
  obtain ⟨v0, vs0, d0, ds0, p0, q0, hargs, rfl, rfl, h0, r0⟩ := trodAll_cons hA
  obtain ⟨v1, vs1, d1, ds1, p1, q1, rfl, rfl, rfl, h1, r1⟩ := trodAll_cons r0
  obtain ⟨rfl, rfl, rfl⟩ := trodAll_nil r1
  obtain rfl : args = #[v0, v1] := by cases args; simp_all
  obtain ⟨rfl, rfl⟩ := trodVars_none hV
  obtain ⟨s0, rfl, rfl, rfl, ws0⟩ := open_int Try.underlying3 (hval 0 3 v0 rfl rfl) h0
  obtain ⟨l1, hs1⟩ := open_ops (hval 1 38 v1 rfl rfl) h1
  clear hA0 hval0
  refine (walk s0 ws0 l1 W hs1).mono fun e W' ⟨he, bel⟩ => ?_
  subst he
  exact ⟨_, rfl, _, _, _, [], _, [], hW', trodAll_mk1 (shut_bool Try.underlying4 _), (trodAll_cons_mk (shut_int Try.underlying3 ws0) (trodAll_cons_mk (Below.trod laidOut (by kernel_rfl) (of_decide_eq_true (by kernel_rfl)) h1 bel (by obtain ⟨f, hf⟩ := h1; exact DataW.trod_lt _ _ _ _ hf)) trodAll_mk0)), rfl, bel.frame _, fun h => by cases h⟩

theorem proved : Rows.LogsNumbersSaid :=
  OpenClaim.holds_of_wide 4 Try.f4 rfl rfl rfl rfl rfl rfl rfl ⟨rfl, rfl, rfl, rfl, rfl⟩ rfl rfl rfl rfl rfl (by kernel_rfl) Try.func4 (by kernel_rfl)
    (of_decide_eq_true (by kernel_rfl)) (by unfold Func.isWrapper; first | (rw [if_pos (by decide +kernel)]; kernel_rfl) | (rw [if_neg (by decide +kernel)]; exact ⟨rfl, rfl⟩))
    (fun os started H enc _ => lifted os started H enc)
#print axioms proved
end Go.Proofs.Ytjednaendedpdaa.logsNumbers
