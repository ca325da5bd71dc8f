/- Whatever numbers and records come in, the call of LogsRoom returns true and leaves its arguments as they were. No condition. -/
import Derived.Test.YtjednaendedpdaaM20
import Derived.Deep.DeepCutAuto
import Derived.Deep.CutBlock
import Derived.IntWalk
import Derived.ProofKit
import Derived.OpenShut
import Derived.ShutString
import Derived.ChangeOld
namespace Go.Proofs.Ytjednaendedpdaa.logsRoom
set_option maxRecDepth 100000
open Go Go.RowKit Go.ChangeShapes Go.WideShapes Go.ChangeAt Sha
open Go.ChangeMaps (open_string shut_string)
set_option linter.unusedVariables false

theorem open_sl {H : Type} {enc : TypeId × Value → H} {w : World} {base : Nat} {spare : Nat → Bool} {held : Bool} {r : Reach} {b0 : Nat} {v : Value} {d : DataW H} {p : List MemPlace}
    (hv : Value.okWide Try.prog w r b0 22 v) (h : DataW.Trod enc Try.prog w base spare held 22 v d p) : ∃ l, Strs w v l := open_strs Try.underlying22 Try.underlying9 (by kernel_rfl) hv h
theorem recN_len (s : List UInt8) : ∀ n p, (recN s n p).length ≤ n
  | 0, _ => Nat.le_refl _
  | n + 1, p => by
    have := recN_len s n (p + 1)
    rw [recN]; split
    · simp; exact this
    · omega
def strB (l : List (List UInt8)) : List ByteArray := l.map fun r => ⟨r.toArray⟩
/-- A row of strings is no part. -/
theorem part_ne {w : World} {F B : Int} {g q p bb cb : Nat} {v : Value} {s : FS} {l : LS} (h : LgS w F B g q p bb cb v s l) {base n : Nat} {x : Value} {xs : List Value} (ho : w.ownsRow base 9 1 x n xs) : x.ownBlock ≠ some q := fun hk => by
  rcases ho.2 with ⟨rfl, _⟩ | ⟨g, c, cur, rfl, _, hg, _⟩
  · cases hk
  · simp only [Value.ownBlock, Option.some.injEq] at hk; subst hk
    have := h.pa.row; rw [hg] at this; simp at this
/-- What stands between the rounds. -/
structure RoomS (w wr : World) (B g q p bb cb : Nat) (s : FS) (l : LS) (hv : Value) (j : Nat) : Prop where
  ow : ∃ v, OwL w wr B g q p bb cb v s l
  inv : LInv 1 B s l
  st : s.Still
  num : l.newest.2 ≤ 1 + j
  few : (s.lall 1 l.segs).length ≤ j
  row : ∃ go c, hv = .slice (some ⟨go, 0, none⟩) (s.lall 1 l.segs).length c ∧ wr.ownsRow w.heap.size 9 1 hv (s.lall 1 l.segs).length (strV (s.lall 1 l.segs))
set_option maxHeartbeats 16000000 in
theorem walk (b : Int) (wb : (Lit.int .i64 b).wf = true) (sp : Int) (wsp : (Lit.int .i64 sp).wf = true) {v : Value} (l : List ByteArray) (w : World) (hl : Strs w v l) :
    Calls Try.prog 3 #[.int .i64 b, .int .i64 sp, v] w fun e w' => e = .returned (.bool true) ∧ Below w.heap.size w w' := by
  obtain ⟨ao, cap, rfl, hlen, hcells⟩ := hl
  unfold maxLen at hlen
  have HCELLS := Box.mk hcells; clear hcells
  have LD := Box.mk (laidl_any b w)
  have hbd := bN_bd b
  generalize bN b = B at LD hbd
  unfold LaidL at LD
  by_cases hB4 : B < 4
  · have e1 : (bfs (B + 1)).lformat 1 B = (bfs (B + 1), ⟨[], false⟩, 140) := by unfold FS.lformat; rw [if_pos hB4]
    rw [e1] at LD
    clear hB4 hbd e1 HCELLS hlen
    go_enter Try.func3, Try.ntmps3
    go_wp2_with fail
    refine LD.out.mono ?_
    rintro e w1 ⟨q, p, bb, cb, p', kv, lv, rfl, hb, hlo, hq, hf, hok, hc⟩
    rcases hc with ⟨_, rfl⟩ | ⟨h, _⟩
    · have BE := Box.mk hb
      clear hb hlo hq hf hok LD
      go_wp2_with fail
      refine (lfixed_any _).mono ?_
      rintro e w2 ⟨rfl, hb⟩
      have B2 := Box.mk (BE.out.trans (hb.mono BE.out.size))
      clear hb
      go_wp2_with fail
      go_ret
      exact ⟨rfl, B2.out⟩
    · cases h
  · obtain ⟨s1, e1, st1, i1, a1, r1⟩ := lformat_inv (B := B) (by omega) hbd.2
    rw [e1] at LD
    have IST := Box.mk (And.intro i1 (And.intro st1 (And.intro a1 r1)))
    obtain ⟨SP, hSP⟩ : ∃ SP : Int, SP = max 0 (min sp 20) := ⟨_, rfl⟩
    have HB12 := Box.mk hbd
    have HSP := Box.mk (show 0 ≤ SP ∧ SP ≤ 20 from by omega)
    clear e1 i1 st1 a1 r1 hB4 hbd
    go_enter Try.func3, Try.ntmps3
    go_wp2_with fail
    refine LD.out.mono ?_
    rintro e w1 ⟨q, p, bb, cb, p', kv, lv, rfl, hb, hlo, hq, hf, hok, hc⟩
    rcases hc with ⟨h, _⟩ | ⟨_, g, v1, rfl, hl, hg, hv⟩
    · exact absurd rfl h
    have OW := Box.mk (show OwL w w1 B g q p bb cb v1 s1 ⟨[(0, 1)], false⟩ from ⟨hl, fun k hk => by
      rcases List.mem_cons.1 hk with rfl | hk
      · exact hg
      · exact hlo k hk, hv, hb⟩)
    clear hb hlo hq hf hok hl hg hv LD
    go_upto_region 4 with (fail)
    go_cut [1] (fun x wx => x = .int .i64 SP ∧ wx = w1)
    case first =>
      go_wp2_with fail
      all_goals
        go_meet
        exact ⟨int_congr (by omega), rfl⟩
    case rest =>
      obtain ⟨rfl, rfl⟩ := hcut
      clear hSP
      go_upto_block 0 with (fail)
      have RS0 := Box.mk (show RoomS w (wc.alloc (.cells #[] 9)) B g q p bb cb s1 ⟨[(0, 1)], false⟩ (.slice (some ⟨wc.heap.size, 0, none⟩) 0 0) 0 from
        ⟨⟨v1, OW.out.al _⟩, IST.out.1, IST.out.2.1, by show 1 ≤ 1 + 0; omega, by rw [IST.out.2.2.1]; simp, by
          rw [IST.out.2.2.1]
          exact ⟨_, _, rfl, World.ownsRow_lit (base := w.heap.size) (size := 1) (e := 9) wc #[] 0 OW.out.be.size (by unfold maxLen; omega) rfl⟩⟩)
      clear IST OW
      generalize wc.alloc (.cells #[] 9) = W0 at RS0 ⊢
      generalize wc.heap.size = h0 at RS0 ⊢
      go_cut [12, 13] (fun hv _ wx => ∃ s l1 j, j ≤ 100 ∧ RoomS w wx B g q p bb cb s l1 hv j)
      case first =>
        go_wp2_with fail
        go_loopw [12, 13, 14, 15, 16, 17, 18] (fun hv i _ _ _ _ _ wr => ∃ (j : Nat) (s : FS) (l1 : LS), j ≤ l.length ∧ j ≤ 100 ∧ i = .int .i64 j ∧ RoomS w wr B g q p bb cb s l1 hv j) (fun _ i _ _ _ _ _ _ => l.length - (intOf i).toNat)
        case atStart => exact ⟨0, s1, _, Nat.zero_le _, by omega, rfl, RS0.out⟩
        case round =>
          clear RS0
          obtain ⟨j, s, l1, hj, hj100, rfl, hr⟩ := hrel
          have RS := Box.mk hr
          clear hr
          by_cases hlt : j < l.length
          · by_cases h100 : j < 100
            · have hltI : (j : Int) < (l.length : Int) := by omega
              have h100I : (j : Int) < 100 := by omega
              obtain ⟨pc, hpc⟩ : ∃ s, l[j]? = some s := ⟨_, List.getElem?_eq_getElem hlt⟩
              obtain ⟨a, rfl, ha, hc, hsm⟩ := HCELLS.out j pc hpc
              have hcell : ∀ w', Below w.heap.size w w' → w'.cell? (a.add j) = some (.string pc) := fun w' hb => by
                have hq : (a.add j).block = a.block := by unfold Addr.add; split <;> rfl
                exact (hb.cell (by rw [hq]; exact ha)).trans hc
              have HCELL := Box.mk hcell
              unfold maxLen at hsm
              obtain ⟨v2, ow2⟩ := RS.out.ow
              have OW2 := Box.mk ow2
              have c0 := hcell _ ow2.be
              have PG := Box.mk (fun w => pages_any pc.size (by omega) w)
              have RM := Box.mk (ow2.room RS.out.inv)
              have FR := Box.mk (fun wr (h : OwL w wr B g q p bb cb v2 s l1) => h.free RS.out.inv)
              have STP := Box.mk (fun wr (h : OwL w wr B g q p bb cb v2 s l1) => steps_any p bb cb s wr h.lg.f)
              have AP := Box.mk (fun wr (h : OwL w wr B g q p bb cb v2 s l1) => h.append RS.out.inv pc SP (by omega) (by have := RS.out.num; omega))
              have AO := Box.mk (RS.out.inv.append (by have := RS.out.num; omega) pc.data.toList SP)
              have hpl : pc.data.toList.length = pc.size := by simp
              have HLT := Box.mk (And.intro hlt h100)
              clear hpc hc hcell ow2 ha hlt h100
              go_wp2_with fail
              refine (PG.out _).mono ?_
              rintro e w3 ⟨rfl, rfl⟩
              go_wp2_with fail
              refine RM.out.mono ?_
              rintro e w3 ⟨rfl, ow3, b3⟩
              obtain ⟨go, c, rfl, hrow⟩ := RS.out.row
              have OW3 := Box.mk ow3; have R3 := Box.mk (own_below hrow b3)
              clear ow3 RM c0 b3 hrow
              go_wp2_with fail
              refine (FR.out _ OW3.out).mono ?_
              rintro e w4 ⟨rfl, ow4, b4⟩
              have OW4 := Box.mk ow4; have R4 := Box.mk (own_below R3.out b4)
              clear ow4 OW3 b4 R3
              go_wp2_with fail
              refine (STP.out _ OW4.out).mono ?_
              rintro e w5 ⟨rfl, rfl⟩
              have c1 := HCELL.out _ OW4.out.be
              have INV := Box.mk RS.out.inv; have NF := Box.mk (And.intro RS.out.st (And.intro RS.out.num RS.out.few))
              have hrm7 : s.lroom 1 l1 ≤ 7 := by unfold FS.lroom; split; omega; exact runB_le _ _
              have hfr : B - l1.segs.length ≤ 12 := by have := HB12.out; omega
              have HL1 := Box.mk (RS.out.inv.by_.lok.few)
              obtain ⟨rm, hrm⟩ : ∃ x, x = s.lroom 1 l1 := ⟨_, rfl⟩
              obtain ⟨fr, hfe⟩ : ∃ x, x = B - l1.segs.length := ⟨_, rfl⟩
              have HRM := Box.mk (And.intro hrm hfe)
              rw [← hrm] at hrm7 ⊢
              rw [← hfe] at hfr ⊢
              clear RS hrm hfe
              by_cases hbig : 400 < pc.size
              · have hR := AO.out.long HSP.out.1 (by rw [hpl]; exact hbig)
                rw [hR] at AP
                have hbI : decide (400 < (pc.size : Int)) = true := by rw [decide_eq_true_eq]; omega
                clear hR AO hbig FR
                go_wp2_with fail
                refine (AP.out _ OW4.out).mono ?_
                rintro e w6 ⟨rfl, ⟨v6, ow6⟩, hu6⟩
                have OW6 := Box.mk ow6; have R6 := Box.mk (own_keep R4.out (w' := w6) fun k hk hl => hu6.block k hl (OW4.out.lg.apart R4.out k hk))
                have c2 := HCELL.out _ ow6.be
                clear ow6 hu6 c1 OW4 R4 STP AP
                go_wp2_with fail
                refine (steps_any p bb cb s _ OW6.out.lg.f).mono ?_
                rintro e w7 ⟨rfl, rfl⟩
                go_wp2_with fail
                exact ⟨⟨j + 1, s, l1, HLT.out.1, HLT.out.2, by go_num, ⟨⟨v6, OW6.out⟩, INV.out, NF.out.1, by have := NF.out.2.1; omega, by have := NF.out.2.2; omega, go, c, rfl, R6.out⟩⟩, by have := HLT.out.1; simp [intOf]; omega⟩
              · have hbI : decide (400 < (pc.size : Int)) = false := by rw [decide_eq_false_iff_not]; omega
                have hpp := pgs_pos (n := pc.size) (by omega)
                have HPC := Box.mk (show pc.data.toList.length = pc.size ∧ pc.size ≤ 400 from ⟨hpl, by omega⟩)
                obtain ⟨m, hm⟩ : ∃ x, x = pgs pc.size := ⟨_, rfl⟩
                have HM := Box.mk hm
                rw [← hm] at hpp ⊢
                clear hm hpl hbig
                by_cases hfull : rm < m ∧ (fr : Int) ≤ SP
                · have hR := AO.out.full HSP.out.1 (by rw [HPC.out.1]; exact HPC.out.2) (by rw [HPC.out.1, ← HRM.out.1, ← HM.out]; exact hfull.1) (by rw [← HRM.out.2]; exact hfull.2)
                  rw [hR] at AP
                  have h1I : (rm : Int) < (m : Int) := by omega
                  have h2I : (fr : Int) ≤ SP := hfull.2
                  clear hR AO hfull FR
                  go_wp2_with fail
                  refine (AP.out _ OW4.out).mono ?_
                  rintro e w6 ⟨rfl, ⟨v6, ow6⟩, hu6⟩
                  have OW6 := Box.mk ow6; have R6 := Box.mk (own_keep R4.out (w' := w6) fun k hk hl => hu6.block k hl (OW4.out.lg.apart R4.out k hk))
                  have c2 := HCELL.out _ ow6.be
                  clear ow6 hu6 c1 OW4 R4 STP AP
                  go_wp2_with fail
                  refine (steps_any p bb cb s _ OW6.out.lg.f).mono ?_
                  rintro e w7 ⟨rfl, rfl⟩
                  go_wp2_with fail
                  exact ⟨⟨j + 1, s, l1, HLT.out.1, HLT.out.2, by go_num, ⟨⟨v6, OW6.out⟩, INV.out, NF.out.1, by have := NF.out.2.1; omega, by have := NF.out.2.2; omega, go, c, rfl, R6.out⟩⟩, by have := HLT.out.1; simp [intOf]; omega⟩
                · have G := AO.out.goes HSP.out.1 (by rw [HPC.out.1]; exact HPC.out.2) (by rw [HPC.out.1, ← HRM.out.1, ← HM.out, ← HRM.out.2]; exact hfull)
                  rw [HPC.out.1, ← HRM.out.1, ← HM.out] at G
                  generalize s.lappend 1 B l1 pc.data.toList SP = R at AP G
                  obtain ⟨s2, l2, e2⟩ := R
                  obtain ⟨x1, x2⟩ := G
                  obtain ⟨he2, st2⟩ := x1 NF.out.1
                  dsimp only at he2
                  subst he2
                  rcases x2 with ⟨_, i2, a2, r2, g2, k2⟩ | ⟨h, _⟩
                  case inr => cases h
                  dsimp only at st2 i2 a2 r2 g2 k2 AP
                  obtain ⟨tf, htf⟩ : ∃ tf : Nat, tf = if rm < m then fr - 1 else fr := ⟨_, rfl⟩
                  obtain ⟨tr, htr⟩ : ∃ tr : Nat, tr = (if rm < m then 7 else rm) - m := ⟨_, rfl⟩
                  rw [← htr] at r2
                  have f2 : B - l2.segs.length = tf := by
                    rw [g2, htf]
                    have := HRM.out.2
                    split
                    · rw [List.length_append, List.length_singleton]; omega
                    · omega
                  have n2 : l2.newest.2 ≤ 1 + (j + 1) := by
                    have := NF.out.2.1
                    unfold LS.newest
                    rw [g2]
                    split
                    · rw [List.length_append, List.length_singleton, Nat.add_sub_cancel, List.getD_eq_getElem?_getD, List.getElem?_append_right (Nat.le_refl _), Nat.sub_self]
                      show l1.newest.2 + 1 ≤ _
                      omega
                    · show l1.newest.2 ≤ _; omega
                  have N2 := Box.mk (And.intro i2 (And.intro st2 (And.intro n2 a2)))
                  have FRR := Box.mk (And.intro r2 f2)
                  have hcase : (rm < m ∧ tf = fr - 1 ∧ tr = 7 - m ∧ 1 ≤ fr) ∨ (¬ rm < m ∧ tf = fr ∧ tr = rm - m) := by
                    by_cases hh : rm < m
                    · left; rw [if_pos hh] at htf htr
                      have := (k2 hh).1; have := HRM.out.2
                      exact ⟨hh, htf, htr, by omega⟩
                    · right; rw [if_neg hh] at htf htr; exact ⟨hh, htf, htr⟩
                  clear AO i2 st2 n2 a2 r2 f2 g2 k2 htf htr x1 FR
                  have hm1 : ¬ (m : Int) < 1 := by omega
                  rcases hcase with ⟨h1, h2, h3, h4⟩ | ⟨h1, h2, h3⟩
                  · have h1I : (rm : Int) < (m : Int) := by omega
                    have h2I : ¬ (fr : Int) ≤ SP := fun h => hfull ⟨h1, h⟩
                    have hw1 : IntKind.i64.wrap ((fr : Int) - 1) = (tf : Int) := by rw [IntKind.wrap_i64]; omega
                    have hw2 : IntKind.i64.wrap (7 - (m : Int)) = (tr : Int) := by rw [IntKind.wrap_i64]; omega
                    clear hfull h1 h2 h3 h4
                    go_wp2_with fail
                    refine (AP.out _ OW4.out).mono ?_
                    rintro e w6 ⟨rfl, ⟨v6, ow6⟩, hu6⟩
                    have OW6 := Box.mk ow6; have R6 := Box.mk (own_keep R4.out (w' := w6) fun k hk hl => hu6.block k hl (OW4.out.lg.apart R4.out k hk))
                    have c2 := HCELL.out _ ow6.be
                    have RM6 := Box.mk (ow6.room N2.out.1)
                    rw [FRR.out.1] at RM6
                    clear ow6 hu6 c1 OW4 R4 STP AP
                    go_wp2_with fail
                    refine RM6.out.mono ?_
                    rintro e w7 ⟨rfl, ow7, b7⟩
                    have OW7 := Box.mk ow7; have R7 := Box.mk (own_below R6.out b7)
                    have c3 := HCELL.out _ ow7.be
                    have FR7 := Box.mk (ow7.free N2.out.1)
                    rw [FRR.out.2] at FR7
                    clear ow7 b7 OW6 R6 RM6 c2
                    go_wp2_with fail
                    refine FR7.out.mono ?_
                    rintro e w8 ⟨rfl, ow8, b8⟩
                    have OW8 := Box.mk ow8; have R8 := Box.mk (own_below R7.out b8)
                    have c4 := HCELL.out _ ow8.be
                    clear ow8 b8 OW7 R7 FR7 c3
                    obtain ⟨i0, hi0, hz0, hsz0, hby0⟩ := info_parts info_str
                    have RR : Box (∀ k u, [Value.string pc][k]? = some u → (w8.alloc (.cells #[.string pc] 9)).cell? ((⟨w8.heap.size, 0, none⟩ : Addr).add k) = some u) := ⟨fun k u hk => by
                      match k, hk with
                      | 0, hk => simp at hk; subst hk; show (w8.alloc _).cell? ⟨_, 0 + 0, none⟩ = _; rw [cell_of_row _ _ _ _ _ _ (heap_alloc_new _ _)]; rfl
                      | k + 1, hk => simp at hk⟩
                    have S8 := Box.mk OW8.out.be.size
                    have hl100 : (s.lall 1 l1.segs).length ≤ 100 := by have := NF.out.2.2; omega
                    go_wp2_with (at_builtin; refine wpList_append_own _ rfl (.tmp 130) (.tmp 135) 22 rfl w.heap.size 9 i0 (.string ⟨#[]⟩) 1 16 Try.underlying22 hi0 hz0 hsz0 hby0 rfl (by decide) (.slice (some ⟨go, 0, none⟩) (s.lall 1 l1.segs).length c) (s.lall 1 l1.segs).length (strV (s.lall 1 l1.segs)) rfl (own_alloc R8.out _) ⟨w8.heap.size, 0, none⟩ 1 1 [.string pc] rfl rfl RR.out (fun u hu => by simp at hu; subst hu; rfl) (by unfold maxLen; omega) (by omega) (by have := S8.out; simp; omega) ?_; intro v' w' hown' hgrow hnil)
                    have b9 : Below w8.heap.size w8 (w8.alloc (.cells #[.string pc] 9)) := (Below.refl _ _).alloc (Nat.le_refl _) _
                    have u9 : Upd ((Value.slice (some ⟨go, 0, none⟩) (s.lall 1 l1.segs).length c).ownBlock.toList) w8 w' := ⟨hgrow.os, hgrow.tape, hgrow.output, Nat.le_trans (by simp) hgrow.size, fun i hi hn => (hgrow.block i (Nat.lt_of_lt_of_le hi (by simp)) (fun e => hn (by rw [← e]; simp))).trans (heap_alloc_old _ _ hi)⟩
                    have hap := fun k hk => OW8.out.lg.apart R8.out k hk
                    have ow9 : OwL w w' B g q p bb cb v6 s2 l2 := by
                      have hf : ∀ x ∈ fp g v6 p bb cb, x ∉ (Value.slice (some ⟨go, 0, none⟩) (s.lall 1 l1.segs).length c).ownBlock.toList := fun x hx hm => by
                        rw [Option.mem_toList] at hm
                        exact hap x hm hx
                      have hqn : q ∉ (Value.slice (some ⟨go, 0, none⟩) (s.lall 1 l1.segs).length c).ownBlock.toList := fun hm => by
                        rw [Option.mem_toList] at hm
                        exact part_ne OW8.out.lg R8.out hm
                      refine ⟨OW8.out.lg.far u9 (hf _ (by simp [fp])) hqn (hf _ (by simp [fp])) (hf _ (by simp [fp])) (hf _ (by simp [fp])) (fun k hk => hf k (by simp [fp, hk])), OW8.out.lo, OW8.out.lv, Upd.below OW8.out.be u9 (fun i hi => ?_) S8.out⟩
                      rw [Option.mem_toList] at hi
                      exact (World.ownsRow.lt R8.out i hi).1
                    have hv' : ∃ g' c', v' = .slice (some ⟨g', 0, none⟩) ((s.lall 1 l1.segs).length + 1) c' := by
                      rcases hown'.2 with ⟨hn, _⟩ | ⟨g', c', cu', hv, _⟩
                      · have := (hnil.1 hn).1; cases this
                      · exact ⟨g', c', hv⟩
                    obtain ⟨g', c', rfl⟩ := hv'
                    have hlen2 : (s2.lall 1 l2.segs).length = (s.lall 1 l1.segs).length + 1 := by rw [N2.out.2.2.2, List.length_append]; rfl
                    have hstr : strV (s2.lall 1 l2.segs) = strV (s.lall 1 l1.segs) ++ [.string pc] := by
                      rw [N2.out.2.2.2]
                      show (_ ++ [_]).map _ = _
                      rw [List.map_append]; rfl
                    refine ⟨⟨j + 1, s2, l2, HLT.out.1, HLT.out.2, by go_num, ⟨⟨v6, ow9⟩, N2.out.1, N2.out.2.1, N2.out.2.2.1, by rw [hlen2]; have := NF.out.2.2; omega, g', c', by rw [hlen2], by rw [hlen2, hstr]; exact hown'⟩⟩, by have := HLT.out.1; simp [intOf]; omega⟩
                  · have h1I : ¬ (rm : Int) < (m : Int) := by omega
                    have hw2 : IntKind.i64.wrap ((rm : Int) - (m : Int)) = (tr : Int) := by rw [IntKind.wrap_i64]; omega
                    subst h2
                    clear hfull h1 h3
                    go_wp2_with fail
                    refine (AP.out _ OW4.out).mono ?_
                    rintro e w6 ⟨rfl, ⟨v6, ow6⟩, hu6⟩
                    have OW6 := Box.mk ow6; have R6 := Box.mk (own_keep R4.out (w' := w6) fun k hk hl => hu6.block k hl (OW4.out.lg.apart R4.out k hk))
                    have c2 := HCELL.out _ ow6.be
                    have RM6 := Box.mk (ow6.room N2.out.1)
                    rw [FRR.out.1] at RM6
                    clear ow6 hu6 c1 OW4 R4 STP AP
                    go_wp2_with fail
                    refine RM6.out.mono ?_
                    rintro e w7 ⟨rfl, ow7, b7⟩
                    have OW7 := Box.mk ow7; have R7 := Box.mk (own_below R6.out b7)
                    have c3 := HCELL.out _ ow7.be
                    have FR7 := Box.mk (ow7.free N2.out.1)
                    rw [FRR.out.2] at FR7
                    clear ow7 b7 OW6 R6 RM6 c2
                    go_wp2_with fail
                    refine FR7.out.mono ?_
                    rintro e w8 ⟨rfl, ow8, b8⟩
                    have OW8 := Box.mk ow8; have R8 := Box.mk (own_below R7.out b8)
                    have c4 := HCELL.out _ ow8.be
                    clear ow8 b8 OW7 R7 FR7 c3
                    obtain ⟨i0, hi0, hz0, hsz0, hby0⟩ := info_parts info_str
                    have RR : Box (∀ k u, [Value.string pc][k]? = some u → (w8.alloc (.cells #[.string pc] 9)).cell? ((⟨w8.heap.size, 0, none⟩ : Addr).add k) = some u) := ⟨fun k u hk => by
                      match k, hk with
                      | 0, hk => simp at hk; subst hk; show (w8.alloc _).cell? ⟨_, 0 + 0, none⟩ = _; rw [cell_of_row _ _ _ _ _ _ (heap_alloc_new _ _)]; rfl
                      | k + 1, hk => simp at hk⟩
                    have S8 := Box.mk OW8.out.be.size
                    have hl100 : (s.lall 1 l1.segs).length ≤ 100 := by have := NF.out.2.2; omega
                    go_wp2_with (at_builtin; refine wpList_append_own _ rfl (.tmp 130) (.tmp 135) 22 rfl w.heap.size 9 i0 (.string ⟨#[]⟩) 1 16 Try.underlying22 hi0 hz0 hsz0 hby0 rfl (by decide) (.slice (some ⟨go, 0, none⟩) (s.lall 1 l1.segs).length c) (s.lall 1 l1.segs).length (strV (s.lall 1 l1.segs)) rfl (own_alloc R8.out _) ⟨w8.heap.size, 0, none⟩ 1 1 [.string pc] rfl rfl RR.out (fun u hu => by simp at hu; subst hu; rfl) (by unfold maxLen; omega) (by omega) (by have := S8.out; simp; omega) ?_; intro v' w' hown' hgrow hnil)
                    have b9 : Below w8.heap.size w8 (w8.alloc (.cells #[.string pc] 9)) := (Below.refl _ _).alloc (Nat.le_refl _) _
                    have u9 : Upd ((Value.slice (some ⟨go, 0, none⟩) (s.lall 1 l1.segs).length c).ownBlock.toList) w8 w' := ⟨hgrow.os, hgrow.tape, hgrow.output, Nat.le_trans (by simp) hgrow.size, fun i hi hn => (hgrow.block i (Nat.lt_of_lt_of_le hi (by simp)) (fun e => hn (by rw [← e]; simp))).trans (heap_alloc_old _ _ hi)⟩
                    have hap := fun k hk => OW8.out.lg.apart R8.out k hk
                    have ow9 : OwL w w' B g q p bb cb v6 s2 l2 := by
                      have hf : ∀ x ∈ fp g v6 p bb cb, x ∉ (Value.slice (some ⟨go, 0, none⟩) (s.lall 1 l1.segs).length c).ownBlock.toList := fun x hx hm => by
                        rw [Option.mem_toList] at hm
                        exact hap x hm hx
                      have hqn : q ∉ (Value.slice (some ⟨go, 0, none⟩) (s.lall 1 l1.segs).length c).ownBlock.toList := fun hm => by
                        rw [Option.mem_toList] at hm
                        exact part_ne OW8.out.lg R8.out hm
                      refine ⟨OW8.out.lg.far u9 (hf _ (by simp [fp])) hqn (hf _ (by simp [fp])) (hf _ (by simp [fp])) (hf _ (by simp [fp])) (fun k hk => hf k (by simp [fp, hk])), OW8.out.lo, OW8.out.lv, Upd.below OW8.out.be u9 (fun i hi => ?_) S8.out⟩
                      rw [Option.mem_toList] at hi
                      exact (World.ownsRow.lt R8.out i hi).1
                    have hv' : ∃ g' c', v' = .slice (some ⟨g', 0, none⟩) ((s.lall 1 l1.segs).length + 1) c' := by
                      rcases hown'.2 with ⟨hn, _⟩ | ⟨g', c', cu', hv, _⟩
                      · have := (hnil.1 hn).1; cases this
                      · exact ⟨g', c', hv⟩
                    obtain ⟨g', c', rfl⟩ := hv'
                    have hlen2 : (s2.lall 1 l2.segs).length = (s.lall 1 l1.segs).length + 1 := by rw [N2.out.2.2.2, List.length_append]; rfl
                    have hstr : strV (s2.lall 1 l2.segs) = strV (s.lall 1 l1.segs) ++ [.string pc] := by
                      rw [N2.out.2.2.2]
                      show (_ ++ [_]).map _ = _
                      rw [List.map_append]; rfl
                    refine ⟨⟨j + 1, s2, l2, HLT.out.1, HLT.out.2, by go_num, ⟨⟨v6, ow9⟩, N2.out.1, N2.out.2.1, N2.out.2.2.1, by rw [hlen2]; have := NF.out.2.2; omega, g', c', by rw [hlen2], by rw [hlen2, hstr]; exact hown'⟩⟩, by have := HLT.out.1; simp [intOf]; omega⟩
            · have h100I : ¬ (j : Int) < 100 := by omega
              have hltI : (j : Int) < (l.length : Int) := by omega
              clear hlt
              go_wp2_with fail
              go_meet
              exact ⟨s, l1, j, hj100, RS.out⟩
          · have hltI : ¬ (j : Int) < (l.length : Int) := by omega
            clear hlt
            go_wp2_with fail
            go_meet
            exact ⟨s, l1, j, hj100, RS.out⟩
      case rest =>
        obtain ⟨s2, l2, j, hj, hr⟩ := hcut
        obtain ⟨⟨v2, ow⟩, inv, st, num, few, go, c, rfl, hrow⟩ := hr
        have OW2 := Box.mk ow; have R2 := Box.mk hrow; have FEW := Box.mk (show (s2.lall 1 l2.segs).length ≤ 100 by omega)
        have ALL := Box.mk (all_any ow inv (by have := HB12.out; omega) (fun x _ => recN_len _ _ _))
        clear ow inv st num few hrow hj RS0
        go_wp2_with fail
        refine ALL.out.mono ?_
        rintro e w3 ⟨⟨gs, c2, rfl, hrow2⟩, hb⟩
        have R3 := Box.mk (own_below R2.out hb); have R4 := Box.mk hrow2; have BE := Box.mk (OW2.out.be.trans (hb.mono OW2.out.be.size))
        clear hb hrow2 ALL OW2 R2
        have hlen : (strB (s2.lall 1 l2.segs)).length = (s2.lall 1 l2.segs).length := by simp [strB]
        have hat : ∀ (W : World) (base : Nat) (g0 c0 : Nat), W.ownsRow base 9 1 (.slice (some ⟨g0, 0, none⟩) (s2.lall 1 l2.segs).length c0) (s2.lall 1 l2.segs).length (strV (s2.lall 1 l2.segs)) → ∀ j u, (strB (s2.lall 1 l2.segs))[j]? = some u → W.cell? ⟨g0, j, none⟩ = some (.string u) := fun W base g0 c0 h j u hu => by
          have hj := (List.getElem?_eq_some_iff.1 hu).1
          rw [hlen] at hj
          rw [h.cellAt j (by omega)]
          unfold strB at hu
          unfold strV
          rw [List.getElem?_map] at hu ⊢
          cases hx : (s2.lall 1 l2.segs)[j]? with
          | none => rw [hx] at hu; cases hu
          | some r => rw [hx] at hu; cases hu; rfl
        have SM := Box.mk (same_any (.slice (some ⟨gs, 0, none⟩) (s2.lall 1 l2.segs).length c2) (.slice (some ⟨go, 0, none⟩) (s2.lall 1 l2.segs).length c) (strB (s2.lall 1 l2.segs)) (strB (s2.lall 1 l2.segs)) (by rw [hlen]; have := FEW.out; omega) (by rw [hlen]; have := FEW.out; omega) w3 gs c2 go c (by rw [hlen]) (by rw [hlen]) (hat _ _ _ _ R4.out) (hat _ _ _ _ R3.out))
        rw [decide_eq_true rfl] at SM
        clear hat hlen
        go_wp2_with fail
        refine SM.out.mono ?_
        rintro e w4 ⟨rfl, n4, rfl⟩
        have BE4 := Box.mk (belD BE.out n4)
        go_wp2_with fail
        refine (lfixed_any _).mono ?_
        rintro e w5 ⟨rfl, hb⟩
        have BE5 := Box.mk (BE4.out.trans (hb.mono BE4.out.size))
        clear hb
        go_wp2_with fail
        go_ret
        exact ⟨rfl, BE5.out⟩
theorem own : ownKnob Try.prog.godebug = none := by kernel_rfl
theorem laidOut : laidOutB Try.prog = true := by kernel_rfl
set_option maxRecDepth 100000 in
theorem lifted (os : Os) (started : os.Started) (H : Type) (enc : TypeId × Value → H) :
    ReturnsInHanded {} Try.checked os 3 .any (Rows.logsRoomSpec.pre6 enc Try.prog Try.f3 Rows.logsRoomRow.domain false) (Rows.logsRoomSpec.post enc Try.prog Try.f3 false true false false) := by
  refine returnsInHanded_of_change (C := Try.checked) own started (by kernel_rfl) Try.func3
    (ChangeSpec.witness6 (enc := enc) (C := Try.checked) false ⟨#[], #[.int .i64 0, .int .i64 0, .slice none 0 0], []⟩ 8 (by kernel_rfl) (by kernel_rfl) (by kernel_rfl) (by kernel_rfl)) ?_
  intro W base args ds gs before hval0 hW hcnd _
  have hval : ∀ (j : Nat) t v, Try.f3.params[j]? = some t → args[j]? = some v → Value.okWide Try.prog W .any base t v := hval0
  have hW' := hW
  obtain ⟨p, q, hA0, hV, rfl, hfz, hnd⟩ := hW
  have hA : DataW.TrodAll enc Try.prog W 0 (fun _ => true) true Try.f3.params.toList args.toList ds p := hA0
  rw [Try.params3] at hA hval
  obtain ⟨v0, vs0, d0, ds0, p0, q0, hargs, rfl, rfl, h0, r0⟩ := trodAll_cons hA
  obtain ⟨v1, vs1, d1, ds1, p1, q1, rfl, rfl, rfl, h1, r1⟩ := trodAll_cons r0
  obtain ⟨v2, vs2, d2, ds2, p2, q2, rfl, rfl, rfl, h2, r2⟩ := trodAll_cons r1
  obtain ⟨rfl, rfl, rfl⟩ := trodAll_nil r2
  obtain rfl : args = #[v0, v1, v2] := by cases args; simp_all
  obtain ⟨rfl, rfl⟩ := trodVars_none hV
  obtain ⟨s0, rfl, rfl, rfl, ws0⟩ := open_int Try.underlying3 (hval 0 3 v0 rfl rfl) h0
  obtain ⟨s1, rfl, rfl, rfl, ws1⟩ := open_int Try.underlying3 (hval 1 3 v1 rfl rfl) h1
  obtain ⟨l2, hs2⟩ := open_sl (hval 2 22 v2 rfl rfl) h2
  clear hA0 hval0
  refine (walk s0 ws0 s1 ws1 l2 W hs2).mono fun e W' ⟨he, bel⟩ => ?_
  subst he
  exact ⟨_, rfl, _, _, _, [], _, [], hW', trodAll_mk1 (shut_bool Try.underlying4 _), (trodAll_cons_mk (shut_int Try.underlying3 ws0) (trodAll_cons_mk (shut_int Try.underlying3 ws1) (trodAll_cons_mk (Below.trod laidOut (by kernel_rfl) (of_decide_eq_true (by kernel_rfl)) h2 bel (by obtain ⟨f, hf⟩ := h2; exact DataW.trod_lt _ _ _ _ hf)) trodAll_mk0))), rfl, bel.frame _, fun h => by cases h⟩

theorem proved : Rows.LogsRoomSaid :=
  OpenClaim.holds_of_wide 3 Try.f3 rfl rfl rfl rfl rfl rfl rfl ⟨rfl, rfl, rfl, rfl, rfl⟩ rfl rfl rfl rfl rfl (by kernel_rfl) Try.func3 (by kernel_rfl)
    (of_decide_eq_true (by kernel_rfl)) (by unfold Func.isWrapper; first | (rw [if_pos (by decide +kernel)]; kernel_rfl) | (rw [if_neg (by decide +kernel)]; exact ⟨rfl, rfl⟩))
    (fun os started H enc _ => lifted os started H enc)
#print axioms proved
end Go.Proofs.Ytjednaendedpdaa.logsRoom
