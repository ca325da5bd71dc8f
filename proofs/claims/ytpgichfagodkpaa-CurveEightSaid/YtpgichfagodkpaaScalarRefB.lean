/- The document's answer on scalars: Mod. -/
import Derived.Test.YtpgichfagodkpaaScalarRefA
import Derived.Deep.RegionLawGrows
import Derived.Deep.DeepCutAuto

namespace Go.Proofs.Ytpgichfagodkpaa
set_option linter.unusedVariables false
open Go Go.RowKit

theorem info_int : (Try.prog.info? 3).map (fun i => (i.zero, i.size, i.bytes)) = some (some (.int .i64 0), 1, 8) := by kernel_rfl

theorem addr_add (b t : Nat) : (⟨b, 0, none⟩ : Addr).add t = ⟨b, t, none⟩ := by unfold Addr.add; split <;> simp_all

/-- A number of c digits. -/
def In256 (N c : Nat) : Prop := N < 256 ^ c
theorem In256.mul {x y k : Nat} (hx : x < 256 ^ k) (hy : y < 256 ^ k) : In256 (x * y) (2 * k) := by
  unfold In256
  rw [show 2 * k = k + k from by omega, Nat.pow_add]
  exact Nat.mul_lt_mul'' hx hy

/-- What holds at the head of Mod's outer loop. -/
structure RmSt (w : World) (b c N P g cap r : Nat) (wr : World) : Prop where
  da : DRow wr b c N
  dl : DRow wr P 32 ordL
  dr : DRow wr g 33 r
  hcap : 33 ≤ cap
  rl : r < ordL
  hP : P < wr.heap.size
  below : Below w.heap.size w wr

theorem RmSt.grow {w wr w2 : World} {b c N P g cap r : Nat} (h : RmSt w b c N P g cap r wr) (hb : b < w.heap.size) (h2 : Below wr.heap.size wr w2) : RmSt w b c N P g cap r w2 :=
  ⟨h.da.below h2 (Nat.lt_of_lt_of_le hb h.below.size), h.dl.below h2 h.hP, h.dr.below h2 (h.dr.lt (by omega)), h.hcap, h.rl, Nat.lt_of_lt_of_le h.hP h2.size, h.below.trans (h2.mono h.below.size)⟩
theorem owned_row {w : World} {base n : Nat} {e : TypeId} {v : Value} {xs : List Value} (h : w.ownsRow base e 1 v n xs) (hn : 0 < n) :
    ∃ g cap, v = .slice (some ⟨g, 0, none⟩) n cap ∧ base ≤ g ∧ n ≤ cap ∧ (∀ j u, xs[j]? = some u → w.cell? ⟨g, j, none⟩ = some u) := by
  have hc := fun g hg => h.cells (g := g) hg
  rcases h.2 with ⟨rfl, rfl⟩ | ⟨g, cap, cur, rfl, hbg, _, hnc, _⟩
  · omega
  · refine ⟨g, cap, rfl, hbg, hnc, fun j u hu => ?_⟩
    have := hc g rfl j u hu
    rwa [addr_add] at this
theorem digit_cons (r d : Nat) (hd : d < 256) (j : Nat) : digit (r * 256 + d) j = if j = 0 then (d : Int) else digit r (j - 1) := by
  unfold digit
  rcases j with _ | j
  · simp; omega
  · simp only [Nat.add_one_ne_zero, if_false, Nat.add_sub_cancel]
    rw [Nat.pow_succ, Nat.mul_comm (256 ^ j), ← Nat.div_div_eq_div_mul, show (r * 256 + d) / 256 = r from by omega]
theorem ref_step (N j V k : Nat) (hV : V + k * ordL = N / 256 ^ (j + 1) % ordL * 256 + N / 256 ^ j % 256) (hl : V < ordL) : N / 256 ^ j % ordL = V := by
  have e : N / 256 ^ (j + 1) = N / 256 ^ j / 256 := by rw [Nat.pow_succ, Nat.div_div_eq_div_mul]
  rw [e] at hV
  generalize N / 256 ^ j = x at hV ⊢
  have h1 : (x / 256 % ordL * 256 + x % 256) % ordL = x % ordL := by
    rw [Nat.add_mod, Nat.mod_mul_mod, ← Nat.add_mod]; congr 1; omega
  rw [← h1, ← hV, Nat.add_mul_mod_self_right, Nat.mod_eq_of_lt hl]

set_option maxRecDepth 100000 in
set_option maxHeartbeats 1000000 in
theorem refMod_any (N c b cap0 : Nat) (w : World) (hN : In256 N c) (hc : c ≤ 1000000) (ha : DRow w b c N) (hb : b < w.heap.size) :
    Calls Try.prog 23 #[.slice (some ⟨b, 0, none⟩) c cap0] w fun e w' => e = .returned (.string (sc N)) ∧ Below w.heap.size w w' := by
  have hmk : ∀ w, (Instr.makeSlice 32 (.int .i64 33) (.int .i64 33)).run Try.prog w = .ok (.slice (some ⟨w.heap.size, 0, none⟩) 33 33) (w.alloc (.cells (dcells 0 33) 3)) := fun _ => by kernel_rfl
  have hmk2 : ∀ w, (Instr.makeSlice 31 (.int .i64 32) (.int .i64 32)).run Try.prog w = .ok (.slice (some ⟨w.heap.size, 0, none⟩) 32 32) (w.alloc (.cells (bcells 0 0 32) 5)) := fun _ => by kernel_rfl
  have HN := Box.mk hN; clear hN
  have HA := Box.mk ha; clear ha
  go_enter Try.func23, Try.ntmps23
  go_wp2_with fail
  refine (refL_any _).mono ?_
  rintro e w1 ⟨P, hP, rfl, hl, hb1⟩
  have hst : RmSt w b c N P w.heap.size 33 0 w1 := by
    have hbl : Below w.heap.size w w1 := ((Below.refl _ _).alloc (Nat.le_refl _) _).trans (hb1.mono (by simp))
    refine ⟨HA.out.below hbl hb, hl, ?_, by omega, ordL_pos, hl.lt (by omega), hbl⟩
    exact (DRow.of (t := 3) (heap_alloc_new w _)).below hb1 (by simp)
  have HS := Box.mk hst; clear hst hl hb1 hP HA
  go_wp2_with fail
  go_loopw [3, 5] (fun v i wr => ∃ j g cap : Nat, j ≤ c ∧ i = .int .i64 ((j : Int) - 1) ∧ v = .slice (some ⟨g, 0, none⟩) 33 cap ∧ RmSt w b c N P g cap (N / 256 ^ j % ordL) wr) (fun _ i _ => (intOf i + 1).toNat)
  case atStart => exact ⟨c, w.heap.size, 33, Nat.le_refl _, rfl, rfl, by rw [Nat.div_eq_of_lt (HN.out : N < 256 ^ c)]; exact HS.out⟩
  case round =>
    clear HS
    obtain ⟨j, g, cap, hj, rfl, rfl, hs⟩ := hrel
    have hcap := hs.hcap
    have HS := Box.mk hs; clear hs
    rcases j with _ | j
    · obtain ⟨wo, rfl⟩ : ∃ wo : World, wo = wr := ⟨_, rfl⟩
      have hbel := HS.out.below
      have hbz := hbel.size
      have hgl := HS.out.dr.lt (by omega)
      have HD := Box.mk HS.out.dr
      have HR := Box.mk HS.out.rl
      clear HS
      have HB := Box.mk hbel; clear hbel
      generalize hR : N / 256 ^ 0 % ordL = R at HD HR
      have HRE := Box.mk hR; clear hR
      go_wp2_with fail
      go_loopw [11] (fun i wz => ∃ k : Nat, k ≤ 32 ∧ i = .int .i64 k ∧ wz.heap[wo.heap.size]? = some (.cells (bcells R k 32) 5 (0, 0)) ∧ DRow wz g 33 R ∧ Below wo.heap.size wo wz) (fun i _ => 32 - (intOf i).toNat)
      case atStart => exact ⟨0, by omega, rfl, by rw [heap_alloc_new]; simp [bcells], HD.out.below ((Below.refl _ _).alloc (Nat.le_refl _) _) hgl, (Below.refl _ _).alloc (Nat.le_refl _) _⟩
      case round =>
        obtain ⟨k, hk, rfl, hrow, hdr, hb3⟩ := hrel
        by_cases hlt : k < 32
        · have c1 := hdr k (by omega)
          have c2 : wr.cell? ⟨wo.heap.size, k, none⟩ = some (.int .u8 ((if k < k then R / 256 ^ k % 256 else 0 : Nat) : Int)) := by
            rw [cell_of_row _ _ _ _ _ _ hrow]; simp [bcells, hlt]
          have f2 : wr.frozen? ⟨wo.heap.size, k, none⟩ = false := frozen_of_row _ _ _ _ _ hrow
          have hbd := digit_bd R k
          have HROW := Box.mk hrow; clear hrow
          have HDR := Box.mk hdr; clear hdr
          have HB3 := Box.mk hb3; clear hb3
          go_wp2
          go_roundw
          case rel =>
            refine ⟨k + 1, by omega, by go_num, ?_, ?_, HB3.out.setCell (p := ⟨wo.heap.size, k, none⟩) (Nat.le_refl _) _⟩
            · rw [heap_setCell_same _ _ _ _ _ _ HROW.out, digit_eq, bcells_step]
            · exact HDR.out.below (B := wo.heap.size) (Below.setCell (p := ⟨wo.heap.size, k, none⟩) (Below.refl _ _) (Nat.le_refl _) _) hgl
          case measure => simp [intOf]; omega
        · have hk3 : k = 32 := by omega
          subst hk3
          rw [bcells_all] at hrow
          have hcv := run_bytes_of_row Try.prog wr wo.heap.size 32 _ _ 31 9 5 32 (leList_length _ _) Try.underlying31 Try.underlying5 Try.underlying9 hrow
          clear hrow
          have HB3 := Box.mk hb3; clear hb3 hdr
          go_wp2
          go_ret
          refine ⟨?_, HB.out.trans (HB3.out.mono HB.out.size)⟩
          rw [sc, show N % ordL = R from by rw [← HRE.out]; simp]; rfl
    · rw [show ((j + 1 : Nat) : Int) - 1 = (j : Int) from by omega]
      have hj' : (j : Int) < (c : Int) := by omega
      have ca := HS.out.da j (by omega)
      have hcapI : (32 : Int) ≤ (cap : Int) := by omega
      go_upto_region 6 with (fail)
      go_cut [6] (fun x wx => ∃ g' cap' : Nat, x = .slice (some ⟨g', 0, none⟩) 33 cap' ∧ 33 ≤ cap' ∧ DRow wx g' 33 (N / 256 ^ (j + 1) % ordL * 256 + N / 256 ^ j % 256) ∧ RmSt w b c N P g cap (N / 256 ^ (j + 1) % ordL) wx)
      case first =>
        obtain ⟨i0, hi, hz0, hz1, hz2⟩ := info_parts info_int
        have s1 : ∀ b' : Addr, some (⟨wr.heap.size, 0, none⟩ : Addr) = some b' → ∀ (t : Nat) (u : Value), [Value.int .i64 (digit N j)][t]? = some u → (wr.alloc (.cells #[.int .i64 (digit N j)] 3)).drew.cell? (b'.add t) = some u := by
          intro b' hb' t u hu
          cases hb'
          rcases t with _ | t
          · rw [addr_add]; simp at hu; subst hu
            exact (cell_of_row _ _ _ _ _ _ (heap_alloc_new wr _)).trans rfl
          · simp at hu
        have s2 : ∀ (t : Nat) (u : Value), (dcells (N / 256 ^ (j + 1) % ordL) 32).toList[t]? = some u → (wr.alloc (.cells #[.int .i64 (digit N j)] 3)).drew.cell? ((⟨g, 0, none⟩ : Addr).add t) = some u := by
          intro t u hu
          have ht : t < 32 := by have := (List.getElem?_eq_some_iff.1 hu).1; simpa [dcells] using this
          rw [addr_add]
          have hg := HS.out.dr.lt (by omega)
          have := HS.out.dr.below ((Below.refl _ _).alloc (Nat.le_refl _) (.cells #[.int .i64 (digit N j)] 3)) hg t (by omega)
          refine Eq.trans this ?_
          rw [← hu, Array.getElem?_toList, dcells_get _ _ _ ht]
        have s3 : ∀ u ∈ (dcells (N / 256 ^ (j + 1) % ordL) 32).toList, u.oneCell' = true := by
          intro u hu; simp [dcells] at hu; obtain ⟨t, _, rfl⟩ := hu; rfl
        have S1 := Box.mk s1; clear s1
        have S2 := Box.mk s2; clear s2
        have S3 := Box.mk s3; clear s3
        go_region_law (refine step_append_grows rfl (.tmp 25) (.tmp 27) 32 rfl 3 i0 (.int .i64 0) 1 8 Try.underlying32 hi hz0 hz1 hz2 rfl (by decide) (some ⟨wr.heap.size, 0, none⟩) 1 1 [.int .i64 (digit N j)] (by simp [Act.eval]) (fun h => by cases h) rfl S1.out ⟨g, 0, none⟩ 32 cap ((dcells (N / 256 ^ (j + 1) % ordL) 32).toList) (by simp [Act.eval]) (by simp [dcells]) S2.out S3.out (by omega) (by unfold maxLen; omega) (by omega) ?_; intro v' w' hown hgrow)
        go_wp2_with fail
        go_meet
        obtain ⟨g', cap', rfl, _, hcp, hcells⟩ := owned_row hown (by omega)
        refine ⟨g', cap', rfl, by omega, ?_, HS.out.grow hb ?_⟩
        · intro t ht
          refine hcells t _ ?_
          rw [digit_cons _ _ (by omega)]
          rcases t with _ | t
          · rw [digit_eq]; rfl
          · simp only [List.singleton_append, List.getElem?_cons_succ, Nat.add_one_ne_zero, if_false, Nat.add_sub_cancel]
            rw [Array.getElem?_toList]; exact dcells_get _ _ _ (by omega)
        · have h1 := (Below.refl wr.heap.size wr).alloc (Nat.le_refl _) (.cells #[.int .i64 (digit N j)] 3)
          exact h1.drew.trans ⟨hgrow.os, hgrow.tape, hgrow.output, hgrow.size, fun k hk => hgrow.block k (by simp; omega) (by simp)⟩
      case rest =>
        clear HS ca
        obtain ⟨g', cap', rfl, hcap', hdr, hs⟩ := hcut
        have HS := Box.mk hs; clear hs
        have hV0 : N / 256 ^ (j + 1) % ordL * 256 + N / 256 ^ j % 256 < 256 * ordL := by have := HS.out.rl; omega
        have HV0 := Box.mk hV0; clear hV0
        go_wp2_with fail
        go_loopw [6, 7] (fun x i wr => ∃ k g1 cap1 V : Nat, i = .int .i64 k ∧ k ≤ 256 ∧ x = .slice (some ⟨g1, 0, none⟩) 33 cap1 ∧ 33 ≤ cap1 ∧ DRow wr g1 33 V ∧ V + k * ordL = N / 256 ^ (j + 1) % ordL * 256 + N / 256 ^ j % 256 ∧ RmSt w b c N P g cap (N / 256 ^ (j + 1) % ordL) wr) (fun _ i _ => 4096 - (intOf i).toNat)
        case atStart => exact ⟨0, g', cap', _, rfl, by omega, rfl, hcap', hdr, by simp, HS.out⟩
        case round =>
          clear HS hdr
          obtain ⟨k, g1, cap1, V, rfl, hk, rfl, hcap1, hdr, hVe, hs⟩ := hrel
          have hVl : V < 256 * ordL := by have := HV0.out; omega
          have hVm : V % 256 ^ 33 = V := Nat.mod_eq_of_lt (by unfold ordL at hVl; omega)
          have hk2 : ordL ≤ V → k < 255 := fun h => by
            have h0 := HV0.out
            rcases Nat.lt_or_ge k 255 with h1 | h1
            · exact h1
            · have := Nat.mul_le_mul_right ordL h1; omega
          have HS := Box.mk hs; clear hs
          have HDR := Box.mk hdr; clear hdr
          have HVE := Box.mk hVe; clear hVe
          have HVM := Box.mk hVm; clear hVm hVl
          have HK := Box.mk hk2; clear hk2
          go_wp2_with fail
          refine (refLess_any V ordL g1 P cap1 _ HDR.out HS.out.dl ordL_lt hcap1).mono ?_
          rintro e w2 ⟨bo, D, hbo, rfl, hdD, hDe, hb2⟩
          rw [HVM.out] at hDe ⊢
          have HS2 := Box.mk (HS.out.grow hb hb2)
          have HDR2 := Box.mk (HDR.out.below hb2 (HDR.out.lt (by omega)))
          have HDD := Box.mk hdD; clear hdD
          have HDE := Box.mk hDe; clear hDe
          clear hb2 hbo HS HDR
          by_cases hd : ordL ≤ V
          · have hk3 := HK.out hd
            rw [decide_eq_true hd]
            have HD := Box.mk hd; clear hd
            go_wp2
            refine ⟨⟨k + 1, bo, 33, D, by go_num, by omega, rfl, by omega, HDD.out, ?_, HS2.out⟩, by simp [intOf]; omega⟩
            rw [HDE.out HD.out, Nat.add_mul, ← HVE.out]; have := HD.out; omega
          · rw [decide_eq_false hd]
            have HD := Box.mk hd; clear hd
            go_wp2
            refine ⟨⟨j, g1, cap1, by omega, rfl, rfl, ?_⟩, by simp [intOf]⟩
            have e := ref_step N j V k HVE.out (by have := HD.out; omega)
            rw [e]
            exact ⟨HS2.out.da, HS2.out.dl, HDR2.out, hcap1, by have := HD.out; omega, HS2.out.hP, HS2.out.below⟩
end Go.Proofs.Ytpgichfagodkpaa
