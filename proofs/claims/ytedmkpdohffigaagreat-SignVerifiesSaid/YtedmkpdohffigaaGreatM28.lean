/- The document's answer on scalars: Mod. The document's answer on scalars: Digits. The curve's laws: the sum of two numbers of 32 bytes; numbers modulo the order. The package sign: what each call answers. Signatures, plainly; the calls whose answers the document fixes. -/
import Derived.Test.YtedmkpdohffigaaGreatM27
import Derived.Deep.RegionLawGrows
import Derived.Deep.DeepCutAuto
import Derived.Test.YtedmkpdohffigaaGreatM08
import Derived.Test.YtedmkpdohffigaaGreatM11
namespace Go.Proofs.YtedmkpdohffigaaGreat
set_option linter.unusedVariables false
open Go Go.RowKit

theorem info_int : (Tryz.prog.info? 3).map (fun i => (i.zero, i.size, i.bytes)) = some (some (.int .i64 0), 1, 8) := by kernel_rfl

theorem addr_add (b t : Nat) : (⟨b, 0, none⟩ : Addr).add t = ⟨b, t, none⟩ := by unfold Addr.add; split <;> simp_all

/-- A number of c digits. -/
def In256 (N c : Nat) : Prop := N < 256 ^ c
theorem In256.mul {x y k : Nat} (hx : x < 256 ^ k) (hy : y < 256 ^ k) : In256 (x * y) (2 * k) := by
  unfold In256
  rw [show 2 * k = k + k from by omega, Nat.pow_add]
  exact Nat.mul_lt_mul'' hx hy

/-- What holds at the head of Mod's outer loop. -/
structure RmSt (w : World) (b c N P g cap r : Nat) (wr : World) : Prop where
  da : DRow wr b c N
  dl : DRow wr P 32 ordL
  dr : DRow wr g 33 r
  hcap : 33 ≤ cap
  rl : r < ordL
  hP : P < wr.heap.size
  below : Below w.heap.size w wr

theorem RmSt.grow {w wr w2 : World} {b c N P g cap r : Nat} (h : RmSt w b c N P g cap r wr) (hb : b < w.heap.size) (h2 : Below wr.heap.size wr w2) : RmSt w b c N P g cap r w2 :=
  ⟨h.da.below h2 (Nat.lt_of_lt_of_le hb h.below.size), h.dl.below h2 h.hP, h.dr.below h2 (h.dr.lt (by omega)), h.hcap, h.rl, Nat.lt_of_lt_of_le h.hP h2.size, h.below.trans (h2.mono h.below.size)⟩
theorem owned_row {w : World} {base n : Nat} {e : TypeId} {v : Value} {xs : List Value} (h : w.ownsRow base e 1 v n xs) (hn : 0 < n) :
    ∃ g cap, v = .slice (some ⟨g, 0, none⟩) n cap ∧ base ≤ g ∧ n ≤ cap ∧ (∀ j u, xs[j]? = some u → w.cell? ⟨g, j, none⟩ = some u) := by
  have hc := fun g hg => h.cells (g := g) hg
  rcases h.2 with ⟨rfl, rfl⟩ | ⟨g, cap, cur, rfl, hbg, _, hnc, _⟩
  · omega
  · refine ⟨g, cap, rfl, hbg, hnc, fun j u hu => ?_⟩
    have := hc g rfl j u hu
    rwa [addr_add] at this
theorem digit_cons (r d : Nat) (hd : d < 256) (j : Nat) : digit (r * 256 + d) j = if j = 0 then (d : Int) else digit r (j - 1) := by
  unfold digit
  rcases j with _ | j
  · simp; omega
  · simp only [Nat.add_one_ne_zero, if_false, Nat.add_sub_cancel]
    rw [Nat.pow_succ, Nat.mul_comm (256 ^ j), ← Nat.div_div_eq_div_mul, show (r * 256 + d) / 256 = r from by omega]
theorem ref_step (N j V k : Nat) (hV : V + k * ordL = N / 256 ^ (j + 1) % ordL * 256 + N / 256 ^ j % 256) (hl : V < ordL) : N / 256 ^ j % ordL = V := by
  have e : N / 256 ^ (j + 1) = N / 256 ^ j / 256 := by rw [Nat.pow_succ, Nat.div_div_eq_div_mul]
  rw [e] at hV
  generalize N / 256 ^ j = x at hV ⊢
  have h1 : (x / 256 % ordL * 256 + x % 256) % ordL = x % ordL := by
    rw [Nat.add_mod, Nat.mod_mul_mod, ← Nat.add_mod]; congr 1; omega
  rw [← h1, ← hV, Nat.add_mul_mod_self_right, Nat.mod_eq_of_lt hl]

set_option maxRecDepth 100000 in
set_option maxHeartbeats 1000000 in
theorem refMod_any (N c b cap0 : Nat) (w : World) (hN : In256 N c) (hc : c ≤ 1000000) (ha : DRow w b c N) (hb : b < w.heap.size) :
    Calls Tryz.prog 55 #[.slice (some ⟨b, 0, none⟩) c cap0] w fun e w' => e = .returned (.string (sc N)) ∧ Below w.heap.size w w' := by
  have hmk : ∀ w, (Instr.makeSlice 76 (.int .i64 33) (.int .i64 33)).run Tryz.prog w = .ok (.slice (some ⟨w.heap.size, 0, none⟩) 33 33) (w.alloc (.cells (dcells 0 33) 3)) := fun _ => by kernel_rfl
  have hmk2 : ∀ w, (Instr.makeSlice 38 (.int .i64 32) (.int .i64 32)).run Tryz.prog w = .ok (.slice (some ⟨w.heap.size, 0, none⟩) 32 32) (w.alloc (.cells (bcells 0 0 32) 5)) := fun _ => by kernel_rfl
  have HN := Box.mk hN; clear hN
  have HA := Box.mk ha; clear ha
  go_enter Tryz.func55, Tryz.ntmps55
  go_wp2_with fail
  refine (refL_any _).mono ?_
  rintro e w1 ⟨P, hP, rfl, hl, hb1⟩
  have hst : RmSt w b c N P w.heap.size 33 0 w1 := by
    have hbl : Below w.heap.size w w1 := ((Below.refl _ _).alloc (Nat.le_refl _) _).trans (hb1.mono (by simp))
    refine ⟨HA.out.below hbl hb, hl, ?_, by omega, ordL_pos, hl.lt (by omega), hbl⟩
    exact (DRow.of (t := 3) (heap_alloc_new w _)).below hb1 (by simp)
  have HS := Box.mk hst; clear hst hl hb1 hP HA
  go_wp2_with fail
  go_loopw [3, 5] (fun v i wr => ∃ j g cap : Nat, j ≤ c ∧ i = .int .i64 ((j : Int) - 1) ∧ v = .slice (some ⟨g, 0, none⟩) 33 cap ∧ RmSt w b c N P g cap (N / 256 ^ j % ordL) wr) (fun _ i _ => (intOf i + 1).toNat)
  case atStart => exact ⟨c, w.heap.size, 33, Nat.le_refl _, rfl, rfl, by rw [Nat.div_eq_of_lt (HN.out : N < 256 ^ c)]; exact HS.out⟩
  case round =>
    clear HS
    obtain ⟨j, g, cap, hj, rfl, rfl, hs⟩ := hrel
    have hcap := hs.hcap
    have HS := Box.mk hs; clear hs
    rcases j with _ | j
    · obtain ⟨wo, rfl⟩ : ∃ wo : World, wo = wr := ⟨_, rfl⟩
      have hbel := HS.out.below
      have hbz := hbel.size
      have hgl := HS.out.dr.lt (by omega)
      have HD := Box.mk HS.out.dr
      have HR := Box.mk HS.out.rl
      clear HS
      have HB := Box.mk hbel; clear hbel
      generalize hR : N / 256 ^ 0 % ordL = R at HD HR
      have HRE := Box.mk hR; clear hR
      go_wp2_with fail
      go_loopw [11] (fun i wz => ∃ k : Nat, k ≤ 32 ∧ i = .int .i64 k ∧ wz.heap[wo.heap.size]? = some (.cells (bcells R k 32) 5 (0, 0)) ∧ DRow wz g 33 R ∧ Below wo.heap.size wo wz) (fun i _ => 32 - (intOf i).toNat)
      case atStart => exact ⟨0, by omega, rfl, by rw [heap_alloc_new]; simp [bcells], HD.out.below ((Below.refl _ _).alloc (Nat.le_refl _) _) hgl, (Below.refl _ _).alloc (Nat.le_refl _) _⟩
      case round =>
        obtain ⟨k, hk, rfl, hrow, hdr, hb3⟩ := hrel
        by_cases hlt : k < 32
        · have c1 := hdr k (by omega)
          have c2 : wr.cell? ⟨wo.heap.size, k, none⟩ = some (.int .u8 ((if k < k then R / 256 ^ k % 256 else 0 : Nat) : Int)) := by
            rw [cell_of_row _ _ _ _ _ _ hrow]; simp [bcells, hlt]
          have f2 : wr.frozen? ⟨wo.heap.size, k, none⟩ = false := frozen_of_row _ _ _ _ _ hrow
          have hbd := digit_bd R k
          have HROW := Box.mk hrow; clear hrow
          have HDR := Box.mk hdr; clear hdr
          have HB3 := Box.mk hb3; clear hb3
          go_wp2
          go_roundw
          case rel =>
            refine ⟨k + 1, by omega, by go_num, ?_, ?_, HB3.out.setCell (p := ⟨wo.heap.size, k, none⟩) (Nat.le_refl _) _⟩
            · rw [heap_setCell_same _ _ _ _ _ _ HROW.out, digit_eq, bcells_step]
            · exact HDR.out.below (B := wo.heap.size) (Below.setCell (p := ⟨wo.heap.size, k, none⟩) (Below.refl _ _) (Nat.le_refl _) _) hgl
          case measure => simp [intOf]; omega
        · have hk3 : k = 32 := by omega
          subst hk3
          rw [bcells_all] at hrow
          have hcv := run_bytes_of_row Tryz.prog wr wo.heap.size 32 _ _ 38 9 5 32 (leList_length _ _) Tryz.underlying38 Tryz.underlying5 Tryz.underlying9 hrow
          clear hrow
          have HB3 := Box.mk hb3; clear hb3 hdr
          go_wp2
          go_ret
          refine ⟨?_, HB.out.trans (HB3.out.mono HB.out.size)⟩
          rw [sc, show N % ordL = R from by rw [← HRE.out]; simp]; rfl
    · rw [show ((j + 1 : Nat) : Int) - 1 = (j : Int) from by omega]
      have hj' : (j : Int) < (c : Int) := by omega
      have ca := HS.out.da j (by omega)
      have hcapI : (32 : Int) ≤ (cap : Int) := by omega
      go_upto_region 6 with (fail)
      go_cut [6] (fun x wx => ∃ g' cap' : Nat, x = .slice (some ⟨g', 0, none⟩) 33 cap' ∧ 33 ≤ cap' ∧ DRow wx g' 33 (N / 256 ^ (j + 1) % ordL * 256 + N / 256 ^ j % 256) ∧ RmSt w b c N P g cap (N / 256 ^ (j + 1) % ordL) wx)
      case first =>
        obtain ⟨i0, hi, hz0, hz1, hz2⟩ := info_parts info_int
        have s1 : ∀ b' : Addr, some (⟨wr.heap.size, 0, none⟩ : Addr) = some b' → ∀ (t : Nat) (u : Value), [Value.int .i64 (digit N j)][t]? = some u → (wr.alloc (.cells #[.int .i64 (digit N j)] 3)).drew.cell? (b'.add t) = some u := by
          intro b' hb' t u hu
          cases hb'
          rcases t with _ | t
          · rw [addr_add]; simp at hu; subst hu
            exact (cell_of_row _ _ _ _ _ _ (heap_alloc_new wr _)).trans rfl
          · simp at hu
        have s2 : ∀ (t : Nat) (u : Value), (dcells (N / 256 ^ (j + 1) % ordL) 32).toList[t]? = some u → (wr.alloc (.cells #[.int .i64 (digit N j)] 3)).drew.cell? ((⟨g, 0, none⟩ : Addr).add t) = some u := by
          intro t u hu
          have ht : t < 32 := by have := (List.getElem?_eq_some_iff.1 hu).1; simpa [dcells] using this
          rw [addr_add]
          have hg := HS.out.dr.lt (by omega)
          have := HS.out.dr.below ((Below.refl _ _).alloc (Nat.le_refl _) (.cells #[.int .i64 (digit N j)] 3)) hg t (by omega)
          refine Eq.trans this ?_
          rw [← hu, Array.getElem?_toList, dcells_get _ _ _ ht]
        have s3 : ∀ u ∈ (dcells (N / 256 ^ (j + 1) % ordL) 32).toList, u.oneCell' = true := by
          intro u hu; simp [dcells] at hu; obtain ⟨t, _, rfl⟩ := hu; rfl
        have S1 := Box.mk s1; clear s1
        have S2 := Box.mk s2; clear s2
        have S3 := Box.mk s3; clear s3
        go_region_law (refine step_append_grows rfl (.tmp 25) (.tmp 27) 76 rfl 3 i0 (.int .i64 0) 1 8 Tryz.underlying76 hi hz0 hz1 hz2 rfl (by decide) (some ⟨wr.heap.size, 0, none⟩) 1 1 [.int .i64 (digit N j)] (by simp [Act.eval]) (fun h => by cases h) rfl S1.out ⟨g, 0, none⟩ 32 cap ((dcells (N / 256 ^ (j + 1) % ordL) 32).toList) (by simp [Act.eval]) (by simp [dcells]) S2.out S3.out (by omega) (by unfold maxLen; omega) (by omega) ?_; intro v' w' hown hgrow)
        go_wp2_with fail
        go_meet
        obtain ⟨g', cap', rfl, _, hcp, hcells⟩ := owned_row hown (by omega)
        refine ⟨g', cap', rfl, by omega, ?_, HS.out.grow hb ?_⟩
        · intro t ht
          refine hcells t _ ?_
          rw [digit_cons _ _ (by omega)]
          rcases t with _ | t
          · rw [digit_eq]; rfl
          · simp only [List.singleton_append, List.getElem?_cons_succ, Nat.add_one_ne_zero, if_false, Nat.add_sub_cancel]
            rw [Array.getElem?_toList]; exact dcells_get _ _ _ (by omega)
        · have h1 := (Below.refl wr.heap.size wr).alloc (Nat.le_refl _) (.cells #[.int .i64 (digit N j)] 3)
          exact h1.drew.trans ⟨hgrow.os, hgrow.tape, hgrow.output, hgrow.size, fun k hk => hgrow.block k (by simp; omega) (by simp)⟩
      case rest =>
        clear HS ca
        obtain ⟨g', cap', rfl, hcap', hdr, hs⟩ := hcut
        have HS := Box.mk hs; clear hs
        have hV0 : N / 256 ^ (j + 1) % ordL * 256 + N / 256 ^ j % 256 < 256 * ordL := by have := HS.out.rl; omega
        have HV0 := Box.mk hV0; clear hV0
        go_wp2_with fail
        go_loopw [6, 7] (fun x i wr => ∃ k g1 cap1 V : Nat, i = .int .i64 k ∧ k ≤ 256 ∧ x = .slice (some ⟨g1, 0, none⟩) 33 cap1 ∧ 33 ≤ cap1 ∧ DRow wr g1 33 V ∧ V + k * ordL = N / 256 ^ (j + 1) % ordL * 256 + N / 256 ^ j % 256 ∧ RmSt w b c N P g cap (N / 256 ^ (j + 1) % ordL) wr) (fun _ i _ => 4096 - (intOf i).toNat)
        case atStart => exact ⟨0, g', cap', _, rfl, by omega, rfl, hcap', hdr, by simp, HS.out⟩
        case round =>
          clear HS hdr
          obtain ⟨k, g1, cap1, V, rfl, hk, rfl, hcap1, hdr, hVe, hs⟩ := hrel
          have hVl : V < 256 * ordL := by have := HV0.out; omega
          have hVm : V % 256 ^ 33 = V := Nat.mod_eq_of_lt (by unfold ordL at hVl; omega)
          have hk2 : ordL ≤ V → k < 255 := fun h => by
            have h0 := HV0.out
            rcases Nat.lt_or_ge k 255 with h1 | h1
            · exact h1
            · have := Nat.mul_le_mul_right ordL h1; omega
          have HS := Box.mk hs; clear hs
          have HDR := Box.mk hdr; clear hdr
          have HVE := Box.mk hVe; clear hVe
          have HVM := Box.mk hVm; clear hVm hVl
          have HK := Box.mk hk2; clear hk2
          go_wp2_with fail
          refine (refLess_any V ordL g1 P cap1 _ HDR.out HS.out.dl ordL_lt hcap1).mono ?_
          rintro e w2 ⟨bo, D, hbo, rfl, hdD, hDe, hb2⟩
          rw [HVM.out] at hDe ⊢
          have HS2 := Box.mk (HS.out.grow hb hb2)
          have HDR2 := Box.mk (HDR.out.below hb2 (HDR.out.lt (by omega)))
          have HDD := Box.mk hdD; clear hdD
          have HDE := Box.mk hDe; clear hDe
          clear hb2 hbo HS HDR
          by_cases hd : ordL ≤ V
          · have hk3 := HK.out hd
            rw [decide_eq_true hd]
            have HD := Box.mk hd; clear hd
            go_wp2
            refine ⟨⟨k + 1, bo, 33, D, by go_num, by omega, rfl, by omega, HDD.out, ?_, HS2.out⟩, by simp [intOf]; omega⟩
            rw [HDE.out HD.out, Nat.add_mul, ← HVE.out]; have := HD.out; omega
          · rw [decide_eq_false hd]
            have HD := Box.mk hd; clear hd
            go_wp2
            refine ⟨⟨j, g1, cap1, by omega, rfl, rfl, ?_⟩, by simp [intOf]⟩
            have e := ref_step N j V k HVE.out (by have := HD.out; omega)
            rw [e]
            exact ⟨HS2.out.da, HS2.out.dl, HDR2.out, hcap1, by have := HD.out; omega, HS2.out.hP, HS2.out.below⟩
end Go.Proofs.YtedmkpdohffigaaGreat
namespace Go.Proofs.YtedmkpdohffigaaGreat
set_option linter.unusedVariables false
open Go Go.RowKit

/-- The values of a number's digits. -/
def dvals (n c : Nat) : List Value := (List.range c).map fun j => Value.int .i64 (digit n j)
theorem dvals_get (n c j : Nat) (h : j < c) : (dvals n c)[j]? = some (.int .i64 (digit n j)) := by simp [dvals, h]
theorem dvals_snoc (n c v : Nat) (hn : n < 256 ^ c) (hv : v < 256) : dvals (n + 256 ^ c * v) (c + 1) = dvals n c ++ [.int .i64 (v : Int)] := by
  unfold dvals
  rw [List.range_succ, List.map_append]
  congr 1
  · apply List.map_congr_left
    intro j hj
    rw [digit_add n c v j hn hv, if_neg (by have := List.mem_range.1 hj; omega)]
  · simp [digit_add n c v c hn hv]

theorem leNat_take_lt (s : ByteArray) (k : Nat) (hk : k ≤ s.size) : leNat (s.data.toList.take k) < 256 ^ k := by
  have := leNat_lt (s.data.toList.take k)
  rwa [List.length_take, Nat.min_eq_left (by simpa using hk)] at this
theorem leNat_take_succ (s : ByteArray) (k : Nat) (hk : k < s.size) : leNat (s.data.toList.take (k + 1)) = leNat (s.data.toList.take k) + 256 ^ k * s[k].toNat := by
  rw [take_snoc s k hk, leNat_snoc, List.length_take, Nat.min_eq_left (by simpa using Nat.le_of_lt hk)]
theorem owned_row2 {w : World} {base n : Nat} {e : TypeId} {v : Value} {xs : List Value} (h : w.ownsRow base e 1 v n xs) (hn : v ≠ .slice none 0 0) :
    ∃ g cap, v = .slice (some ⟨g, 0, none⟩) n cap ∧ base ≤ g ∧ (∀ j u, xs[j]? = some u → w.cell? ⟨g, j, none⟩ = some u) ∧ g < w.heap.size := by
  have hc := fun g hg => h.cells (g := g) hg
  rcases h.2 with ⟨rfl, rfl⟩ | ⟨g, cap, cur, rfl, hbg, hg, hnc, _⟩
  · exact absurd rfl hn
  · refine ⟨g, cap, rfl, hbg, fun j u hu => ?_, (Array.getElem?_eq_some_iff.1 hg).1⟩
    have := hc g rfl j u hu
    rwa [addr_add] at this

set_option maxRecDepth 100000 in
set_option maxHeartbeats 1000000 in
theorem digits_any (s : ByteArray) (w : World) (hs : s.size ≤ 1000000) :
    Calls Tryz.prog 56 #[.string s] w fun e w' => ∃ b cap, w.heap.size ≤ b ∧ b < w'.heap.size ∧ e = .returned (.slice (some ⟨b, 0, none⟩) s.size cap) ∧ DRow w' b s.size (num s) ∧ Below w.heap.size w w' := by
  have HI := info_parts info_int
  go_enter Tryz.func56, Tryz.ntmps56
  go_wp2_with fail
  have hown0 := World.ownsRow_made (base := w.heap.size) (e := 3) (size := 1) w #[] 0 (Nat.le_refl _) (by omega) (by simp)
  go_loopw [3, 4] (fun v i wr => ∃ k : Nat, k ≤ s.size ∧ i = .int .i64 k ∧ wr.ownsRow w.heap.size 3 1 v k (dvals (leNat (s.data.toList.take k)) k) ∧ v ≠ .slice none 0 0 ∧ Below w.heap.size w wr) (fun _ i _ => s.size - (intOf i).toNat)
  case atStart => exact ⟨0, by omega, rfl, hown0, by simp, (Below.refl _ _).alloc (Nat.le_refl _) _⟩
  case round =>
    clear hown0
    obtain ⟨k, hk, rfl, hown, hnn, hbel⟩ := hrel
    obtain ⟨i0, hi, hz0, hz1, hz2⟩ := HI
    by_cases hlt : k < s.size
    · have hu := (s[k]).toNat_lt
      have HB := Box.mk hbel; clear hbel
      have HN := Box.mk hnn; clear hnn
      go_wp2_with (at_builtin; refine wpList_append_own _ rfl _ _ 76 rfl w.heap.size 3 i0 (.int .i64 0) 1 8 Tryz.underlying76 hi hz0 hz1 hz2 rfl (by decide) _ _ _ rfl (hown.alloc _) ⟨wr.heap.size, 0, none⟩ 1 1 [.int .i64 (s[k].toNat : Int)] rfl rfl ?c1 ?c2 ?c3 ?c4 ?c5 ?_)
      case c1 =>
        intro j u hj
        match j, hj with
        | 0, hj => simp at hj; subst hj; simp [Addr.add]
      case c2 => intro u hu; simp at hu; subst hu; rfl
      case c3 => unfold maxLen; omega
      case c4 => omega
      case c5 => have := HB.out.size; simp; omega
      intro v' w1 hown' hgrow hnil
      have hlo := hown.lt
      rw [← dvals_snoc _ _ _ (leNat_take_lt s k hk) hu, ← leNat_take_succ s k hlt] at hown'
      have hbel := (HB.out.alloc HB.out.size (.cells #[.int .i64 (s[k].toNat : Int)] 3)).grown hgrow (by have := HB.out.size; simp; omega) (fun t ht => (hlo t ht).1)
      clear hown hgrow HB hlo
      have HO := Box.mk hown'; clear hown'
      have HB := Box.mk hbel; clear hbel
      have HNN := Box.mk hnil; clear hnil
      go_wp2
      go_roundw
      case rel => exact ⟨k + 1, by omega, by go_num, HO.out, HNN.out, HB.out⟩
      case measure => simp [intOf]; omega
    · have hk2 : k = s.size := by omega
      subst hk2
      rw [List.take_of_length_le (by simp)] at hown
      have HO := Box.mk hown; clear hown
      have HB := Box.mk hbel; clear hbel
      have HNN := Box.mk hnn; clear hnn
      go_wp2
      go_ret
      obtain ⟨g, cap, rfl, hbg, hcells, hlt2⟩ := owned_row2 HO.out HNN.out
      exact ⟨g, cap, hbg, hlt2, rfl, fun j hj => hcells j _ (dvals_get _ _ _ hj), HB.out⟩

end Go.Proofs.YtedmkpdohffigaaGreat
namespace Go.Proofs.YtedmkpdohffigaaGreat.Fe
set_option linter.unusedVariables false
open Go Go.RowKit

theorem num_at (s : ByteArray) (k : Nat) (h : k < s.size) : s[k].toNat = Go.Proofs.YtedmkpdohffigaaGreat.num s / 256 ^ k % 256 := by
  refine (leNat_at s.data.toList k s[k] ?_).symm
  rw [List.getElem?_eq_getElem (by simpa using h)]; rfl
/-- What is over behind k bytes. -/
def cyC (A B k : Nat) : Nat := (A % 256 ^ k + B % 256 ^ k) / 256 ^ k
theorem cyC_zero (A B : Nat) : cyC A B 0 = 0 := by unfold cyC; simp [Nat.mod_one]
theorem cyC_le (A B k : Nat) : cyC A B k ≤ 1 := by
  have hM : 0 < 256 ^ k := Nat.pow_pos (by omega)
  have h1 := Nat.mod_lt A hM; have h2 := Nat.mod_lt B hM
  unfold cyC
  have : (A % 256 ^ k + B % 256 ^ k) / 256 ^ k < 2 := by rw [Nat.div_lt_iff_lt_mul hM]; omega
  omega
theorem cyC_step (A B k : Nat) : cyC A B (k + 1) = (A / 256 ^ k % 256 + B / 256 ^ k % 256 + cyC A B k) / 256 := by
  have hM : 0 < 256 ^ k := Nat.pow_pos (by omega)
  unfold cyC
  rw [Nat.pow_succ, Nat.mod_mul, Nat.mod_mul, ← Nat.div_div_eq_div_mul]
  congr 1
  rw [show A % 256 ^ k + 256 ^ k * (A / 256 ^ k % 256) + (B % 256 ^ k + 256 ^ k * (B / 256 ^ k % 256)) = A % 256 ^ k + B % 256 ^ k + 256 ^ k * (A / 256 ^ k % 256 + B / 256 ^ k % 256) by rw [Nat.mul_add]; omega, Nat.add_mul_div_left _ _ hM]
  omega
theorem cyC_digit (A B k : Nat) : (A + B) / 256 ^ k % 256 = (A / 256 ^ k % 256 + B / 256 ^ k % 256 + cyC A B k) % 256 := by
  have hM : 0 < 256 ^ k := Nat.pow_pos (by omega)
  have e : (A + B) / 256 ^ k = A / 256 ^ k + B / 256 ^ k + cyC A B k := by
    unfold cyC
    have h1 := Nat.div_add_mod A (256 ^ k); have h2 := Nat.div_add_mod B (256 ^ k)
    have : A + B = A % 256 ^ k + B % 256 ^ k + 256 ^ k * (A / 256 ^ k + B / 256 ^ k) := by rw [Nat.mul_add]; omega
    rw [this, Nat.add_mul_div_left _ _ hM]; omega
  rw [e]; omega
theorem cyC_all {A B : Nat} (hA : A < 256 ^ 32) (hB : B < 256 ^ 32) : cyC A B 32 = (A + B) / 256 ^ 32 := by
  unfold cyC; rw [Nat.mod_eq_of_lt hA, Nat.mod_eq_of_lt hB]
theorem oL_ordL : oL = ordL := by unfold ordL; exact oL_eq
theorem dg1 (v : Nat) (hv : v < 256) : digit v 0 = (v : Int) := by rw [digit_eq, Nat.pow_zero, Nat.div_one, Nat.mod_eq_of_lt hv]
/-- Mod of one digit. -/
theorem mod1 (v : Nat) (hv : v < 256) (b cap : Nat) (w : World) (hb : w.cell? ⟨b, 0, none⟩ = some (.int .i64 (v : Int))) (hl : b < w.heap.size) :
    Calls Tryz.prog 55 #[.slice (some ⟨b, 0, none⟩) 1 cap] w fun e w' => e = .returned (.string (sc v)) ∧ Gr w w' :=
  (refMod_any v 1 b cap w (by unfold In256; omega) (by omega) (fun j hj => by
    obtain rfl : j = 0 := by omega
    rw [dg1 v hv]; exact hb) hl).mono fun _ _ h => h
theorem sc_small (v : Nat) (hv : v < 256) : num (sc v) = v := by
  rw [num_sc]; exact Nat.mod_eq_of_lt (by unfold ordL; omega)
section
variable {P : Program} {W : World} {S : List Nat} {T : (World → Prop) → List Nat → Act → Prop} {L : List (Oper × Kd)} {F : World → Prop} {N : List Nat} {a : Act} {o : Oper}
/-- A conversion that reads a block that stood. -/
theorem gm_convS {src dst : TypeId} (x : Operand) (ho : o.op = .convert src dst x) (v : Value) (hr : ∀ w, GrS S W w → (convert src dst (a.eval x)).run P w = .ok v w)
    (h : wpG P W S T L F N (a.put o.dst v)) : wpG P W S T ((o, .flo) :: L) F N a :=
  gm_flo v (fun w hw => by unfold execOp; simp only [ho, Sem.run_bind, hr w hw, Result.andThen_ok, Sem.run_pure]) h
end
theorem cell_same {w w' : World} {b : Nat} (h : w'.heap[b]? = w.heap[b]?) (j : Nat) : w'.cell? ⟨b, j, none⟩ = w.cell? ⟨b, j, none⟩ := by simp [World.cell?, h]
theorem order_str (w : World) (b : Nat) (h : w.heap[b]? = some (.cells (bcells ordL 32 32) 5 (0, 0))) : (convert 38 9 (.slice (some ⟨b, 0, none⟩) 32 32)).run Tryz.prog w = .ok (.string (sbytes ordL)) w :=
  run_bytes_of_row Tryz.prog w b 32 _ _ 38 9 5 32 (leList_length 32 ordL) Tryz.underlying38 Tryz.underlying5 Tryz.underlying9 (by rw [← bcells_all]; exact h)
theorem num_order : Go.Proofs.YtedmkpdohffigaaGreat.num (sbytes ordL) = oL := by rw [num_sbytes, Nat.mod_eq_of_lt ordL_lt, oL_ordL]
end Go.Proofs.YtedmkpdohffigaaGreat.Fe
namespace Go.Proofs.YtedmkpdohffigaaGreat.Fe
set_option linter.unusedVariables false
open Go Go.RowKit

/-- All texts, one behind the other. -/
def catL (L : List ByteArray) : List UInt8 := L.flatMap (·.data.toList)
theorem catL_snoc (L : List ByteArray) (s : ByteArray) : catL (L ++ [s]) = catL L ++ s.data.toList := by simp [catL]
/-- The scalar of a sum. -/
def redL (l : List UInt8) : ByteArray := sc (Go.Proofs.YtedmkpdohffigaaGreat.num (sumS 1 l))
theorem redL_size (l : List UInt8) : (redL l).size = 32 := sc_size _
theorem redL_num (l : List UInt8) : Go.Proofs.YtedmkpdohffigaaGreat.num (redL l) = Go.Proofs.YtedmkpdohffigaaGreat.num (sumS 1 l) % oL := by unfold redL; rw [num_sc, oL_ordL]
theorem size64 (l : List UInt8) : (sumS 1 l).size = 64 := by have := sumS_size 1 l (.inr rfl); omega
theorem rdc (s : ByteArray) (h : s.size ≤ 64) (w : World) : Calls Tryz.prog 48 #[.string s] w fun e w' => e = .returned (.tuple #[.string (sc (Go.Proofs.YtedmkpdohffigaaGreat.num s)), .int .i64 0]) ∧ Gr w w' :=
  (Go.Proofs.YtedmkpdohffigaaGreat.reduce_any s w).mono fun _ _ ⟨he, hg⟩ => ⟨by rw [he, if_pos h], hg⟩
theorem sad (a b : ByteArray) (ha : a.size = 32) (hb : b.size = 32) (w : World) : Calls Tryz.prog 21 #[.string a, .string b] w fun e w' => e = .returned (.tuple #[.string (sc (Go.Proofs.YtedmkpdohffigaaGreat.num a + Go.Proofs.YtedmkpdohffigaaGreat.num b)), .int .i64 0]) ∧ Gr w w' :=
  (Go.Proofs.YtedmkpdohffigaaGreat.add_any a b w).mono fun _ _ ⟨he, hg⟩ => ⟨by rw [he, if_pos ⟨ha, hb⟩], hg⟩
theorem sml (a b : ByteArray) (ha : a.size = 32) (hb : b.size = 32) (w : World) : Calls Tryz.prog 20 #[.string a, .string b] w fun e w' => e = .returned (.tuple #[.string (sc (Go.Proofs.YtedmkpdohffigaaGreat.num a * Go.Proofs.YtedmkpdohffigaaGreat.num b)), .int .i64 0]) ∧ Gr w w' :=
  (Go.Proofs.YtedmkpdohffigaaGreat.mul_any a b w).mono fun _ _ ⟨he, hg⟩ => ⟨by rw [he, if_pos ⟨ha, hb⟩], hg⟩
theorem sis (s : ByteArray) (w : World) : Calls Tryz.prog 26 #[.string s] w fun e w' => e = .returned (.bool (decide (s.size = 32 ∧ Go.Proofs.YtedmkpdohffigaaGreat.num s < ordL))) ∧ Gr w w' := Go.Proofs.YtedmkpdohffigaaGreat.is_any s w
theorem take_snoc' {α : Type} (L : List α) (k : Nat) (s : α) (h : L[k]? = some s) : L.take (k + 1) = L.take k ++ [s] := by
  rw [List.take_add_one, h]; rfl
theorem catL_len (L : List ByteArray) (k m : Nat) (h : ∀ s ∈ L, s.size ≤ m) : (catL (L.take k)).length ≤ k * m := by
  induction k with
  | zero => simp [catL]
  | succ k ih =>
    cases hk : L[k]? with
    | none => rw [List.take_of_length_le (by have := List.getElem?_eq_none_iff.1 hk; omega)]; rw [List.take_of_length_le (by have := List.getElem?_eq_none_iff.1 hk; omega)] at ih; rw [Nat.succ_mul]; omega
    | some s =>
      rw [take_snoc' L k s hk, catL_snoc, List.length_append, Nat.succ_mul]
      have := h s (List.mem_of_getElem? hk)
      have : s.data.toList.length = s.size := by simp
      omega
set_option maxRecDepth 100000 in
set_option maxHeartbeats 2000000 in
theorem red_any (L : List ByteArray) (g n cap : Nat) (hL : L.length = n) (hn : n ≤ 10) (hs : ∀ s ∈ L, s.size ≤ 2000) (w : World) (hc : ∀ j s, L[j]? = some s → w.cell? ⟨g, j, none⟩ = some (.string s)) (hg : g < w.heap.size) :
    Calls Tryz.prog 19 #[.slice (some ⟨g, 0, none⟩) n cap] w fun e w' => e = .returned (.string (redL (catL L))) ∧ Gr w w' := by
  have HC := Box.mk hc; have HL := Box.mk hL; have HS := Box.mk hs
  clear hc hs hL
  go_enter Tryz.func19, Tryz.ntmps19
  go_wp2_with fail
  refine (newB_any 1 (.inr rfl) _).mono ?_
  rintro e w1 ⟨p, rfl, hp, hb, hg1⟩
  have HB := Box.mk hb
  have G := Box.mk (Gr.of hg1)
  have HC1 := Box.mk (fun j s h => (cell_same (hg1.block g hg) j).trans (HC.out j s h))
  have hgp : g ≠ p := by omega
  clear hb hg1 HC
  go_wp2_with fail
  go_loopw [15] (fun i wr => ∃ k : Nat, k ≤ n ∧ i = .int .i64 k ∧ HasB 1 wr p (catL (L.take k)) ∧ (∀ j s, L[j]? = some s → wr.cell? ⟨g, j, none⟩ = some (.string s)) ∧ g < wr.heap.size ∧ Gr w wr) (fun i _ => n - (intOf i).toNat)
  case atStart => exact ⟨0, by omega, rfl, HB.out, HC1.out, Nat.lt_of_lt_of_le hg G.out.size, G.out⟩
  case round =>
    clear HB HC1 G
    obtain ⟨k, hk, rfl, hb, hc, hgl, hgr⟩ := hrel
    have HB := Box.mk hb; have HC1 := Box.mk hc; have G := Box.mk hgr
    clear hb hc hgr
    by_cases hlt : k < n
    · have hkI : (k : Int) < (n : Int) := by omega
      obtain ⟨s, hsk⟩ : ∃ s, L[k]? = some s := ⟨L[k]'(by rw [HL.out]; exact hlt), List.getElem?_eq_getElem _⟩
      have hcell := HC1.out k s hsk
      have HSK := Box.mk hsk
      have hsz := HS.out s (List.mem_of_getElem? hsk)
      have hlen := catL_len L k 2000 HS.out
      have HLN := Box.mk (show (catL (L.take k)).length ≤ 500000 by have : k * 2000 ≤ 10 * 2000 := Nat.mul_le_mul (by omega) (Nat.le_refl _); omega)
      have HSZ := Box.mk (show s.size ≤ 500000 by omega)
      clear hsk hsz hlen
      go_wp2_with fail
      refine (writeB_any 1 p _ s _ HB.out HSZ.out HLN.out).mono ?_
      rintro e w3 ⟨rfl, hb3, hu⟩
      rw [← catL_snoc, ← take_snoc' L k s HSK.out] at hb3
      have HB3 := Box.mk hb3
      have HU := Box.mk hu
      clear hb3 hu hcell
      go_wp2
      refine ⟨⟨k + 1, by omega, by go_num, HB3.out, fun j t hj => (cell_same (HU.out.block g hgl (by simpa using hgp)) j).trans (HC1.out j t hj), Nat.lt_of_lt_of_le hgl HU.out.size, ?_⟩, by simp [intOf]; omega⟩
      exact Upd.below G.out HU.out (by simpa using hp) G.out.size
    · obtain rfl : k = n := by omega
      have hall : L.take k = L := List.take_of_length_le (by rw [HL.out]; exact Nat.le_refl _)
      rw [hall] at HB
      have hlen := catL_len L k 2000 HS.out
      rw [hall] at hlen
      have HLN := Box.mk (show (catL L).length ≤ 900000 by have : k * 2000 ≤ 10 * 2000 := Nat.mul_le_mul (by omega) (Nat.le_refl _); omega)
      clear hall hlen HC1 hlt
      go_wp2_with fail
      refine (sumB_any 1 p _ _ HB.out HLN.out).mono ?_
      rintro e w4 ⟨rfl, hg4⟩
      replace G := Box.mk (G.out.trans (Gr.of hg4)); clear hg4
      go_wp2_with fail
      refine (rdc _ (by rw [size64]; omega) _).mono ?_
      rintro e w5 ⟨rfl, hg5⟩
      replace G := Box.mk (G.out.trans hg5); clear hg5
      go_wp2
      go_ret
      exact ⟨rfl, G.out⟩
/-- A seed's secret and prefix. -/
def secL (l : List UInt8) : List UInt8 := (l.set 0 (l.getD 0 0 &&& 248)).set 31 ((l.getD 31 0 &&& 63) ||| 64)
def hashS (s : ByteArray) : ByteArray := sumS 1 s.data.toList
def secS (s : ByteArray) : ByteArray := ⟨(secL (hashS s |>.data.toList.take 32)).toArray⟩
def preS (s : ByteArray) : ByteArray := (hashS s).extract 32 64
theorem secS_size (s : ByteArray) : (secS s).size = 32 := by
  have h := size64 s.data.toList
  show (secL ((sumS 1 s.data.toList).data.toList.take 32)).toArray.size = 32
  have : (sumS 1 s.data.toList).data.toList.length = 64 := by rw [← h]; simp
  simp [secL, this]
theorem u8_and248 (c : UInt8) : bits .and .u8 (c.toNat : Int) 248 = ((c &&& 248).toNat : Int) := by
  have : ∀ n : Fin 256, bits .and .u8 (n.val : Int) 248 = (((UInt8.ofNat n.val) &&& 248).toNat : Int) := by decide +kernel
  have h := this ⟨c.toNat, c.toNat_lt⟩
  simpa using h
theorem u8_and63 (c : UInt8) : bits .and .u8 (c.toNat : Int) 63 = ((c &&& 63).toNat : Int) := by
  have : ∀ n : Fin 256, bits .and .u8 (n.val : Int) 63 = (((UInt8.ofNat n.val) &&& 63).toNat : Int) := by decide +kernel
  have h := this ⟨c.toNat, c.toNat_lt⟩
  simpa using h
theorem u8_or64 (c : UInt8) : bits .or .u8 (c.toNat : Int) 64 = ((c ||| 64).toNat : Int) := by
  have : ∀ n : Fin 256, bits .or .u8 (n.val : Int) 64 = (((UInt8.ofNat n.val) ||| 64).toNat : Int) := by decide +kernel
  have h := this ⟨c.toNat, c.toNat_lt⟩
  simpa using h
theorem results_tmp3 {fn : Func} {t u v : Tmp} (h : fn.results = #[.tmp t, .tmp u, .tmp v]) (tmps : Array Value) (P : Program) (w : World) :
    (results fn tmps).run P w = .ok (.tuple #[tmps.getD t undef, tmps.getD u undef, tmps.getD v undef]) w := by
  simp [results, h]

theorem run_lo32 {s : ByteArray} (hs : s.size = 64) (w : World) : (Instr.sliceAt 9 (.string s) none (some (.int .i64 32)) none).run Tryz.prog w = .ok (.string (s.extract 0 32)) w := by
  rw [run_sliceAt_string _ _ _ _ _ _ Tryz.underlying9]
  simp [Instr.slice, Instr.sliceBounds, Instr.sliceBound, asIntOf, run_underlying Tryz.underlying9, hs]
theorem run_hi32 {s : ByteArray} (hs : s.size = 64) (w : World) : (Instr.sliceAt 9 (.string s) (some (.int .i64 32)) none none).run Tryz.prog w = .ok (.string (s.extract 32 64)) w := by
  rw [run_sliceAt_string _ _ _ _ _ _ Tryz.underlying9]
  simp [Instr.slice, Instr.sliceBounds, Instr.sliceBound, asIntOf, run_underlying Tryz.underlying9, hs]
theorem lo_size {s : ByteArray} (hs : s.size = 64) : (s.extract 0 32).size = 32 := by simp [ByteArray.size_extract, hs]
theorem hi_size {s : ByteArray} (hs : s.size = 64) : (s.extract 32 64).size = 32 := by simp [ByteArray.size_extract, hs]
theorem lo_list (s : ByteArray) : (s.extract 0 32).data.toList = s.data.toList.take 32 := by simp [ByteArray.data_extract, List.extract_eq_take_drop]
theorem cells2 (w : World) (a b : ByteArray) (t : TypeId) : ∀ (j : Nat) (s : ByteArray), [a, b][j]? = some s → (w.alloc (.cells #[.string a, .string b] t)).cell? ⟨w.heap.size, j, none⟩ = some (.string s) := fun j s h => by
  rw [cell_of_row _ _ _ _ _ _ (heap_alloc_new w _)]
  match j, h with
  | 0, h => simp at h; subst h; rfl
  | 1, h => simp at h; subst h; rfl
theorem cells3 (w : World) (a b c : ByteArray) (t : TypeId) : ∀ (j : Nat) (s : ByteArray), [a, b, c][j]? = some s → (w.alloc (.cells #[.string a, .string b, .string c] t)).cell? ⟨w.heap.size, j, none⟩ = some (.string s) := fun j s h => by
  rw [cell_of_row _ _ _ _ _ _ (heap_alloc_new w _)]
  match j, h with
  | 0, h => simp at h; subst h; rfl
  | 1, h => simp at h; subst h; rfl
  | 2, h => simp at h; subst h; rfl
theorem red2 (a b : ByteArray) (ha : a.size ≤ 2000) (hb : b.size ≤ 2000) (w : World) : Calls Tryz.prog 19 #[.slice (some ⟨w.heap.size, 0, none⟩) 2 2] (w.alloc (.cells #[.string a, .string b] 9)) fun e w' => e = .returned (.string (redL (catL [a, b]))) ∧ Gr w w' :=
  (red_any [a, b] w.heap.size 2 2 rfl (by omega) (fun s h => by
    simp only [List.mem_cons, List.not_mem_nil, or_false] at h
    rcases h with rfl | rfl <;> assumption) _ (cells2 w a b _) (by simp)).mono fun _ _ ⟨he, hg⟩ => ⟨he, (Gr.alloc _ _).trans hg⟩
theorem red3 (a b c : ByteArray) (ha : a.size ≤ 2000) (hb : b.size ≤ 2000) (hc : c.size ≤ 2000) (w : World) : Calls Tryz.prog 19 #[.slice (some ⟨w.heap.size, 0, none⟩) 3 3] (w.alloc (.cells #[.string a, .string b, .string c] 9)) fun e w' => e = .returned (.string (redL (catL [a, b, c]))) ∧ Gr w w' :=
  (red_any [a, b, c] w.heap.size 3 3 rfl (by omega) (fun s h => by
    simp only [List.mem_cons, List.not_mem_nil, or_false] at h
    rcases h with rfl | rfl | rfl <;> assumption) _ (cells3 w a b c _) (by simp)).mono fun _ _ ⟨he, hg⟩ => ⟨he, (Gr.alloc _ _).trans hg⟩
set_option maxRecDepth 100000 in
set_option maxHeartbeats 4000000 in
theorem parts_yes (s : ByteArray) (hs : s.size = 32) (w : World) : Calls Tryz.prog 13 #[.string s] w fun e w' => e = .returned (.tuple #[.string (secS s), .string (preS s), .bool true]) ∧ Gr w w' := by
  have hsI : (s.size : Int) = 32 := by omega
  have HONE := Box.mk (fun v => oneB_any 1 (.inr rfl) s (by omega) v)
  obtain ⟨H, hH⟩ : ∃ H, H = sumS 1 s.data.toList := ⟨_, rfl⟩
  have HSZ := Box.mk (show H.size = 64 from by rw [hH]; exact size64 _)
  have ESEC := Box.mk (show secS s = ⟨(secL (H.data.toList.take 32)).toArray⟩ from by rw [hH]; rfl)
  have EPRE := Box.mk (show preS s = H.extract 32 64 from by rw [hH]; rfl)
  rw [← hH] at HONE
  clear hH hs
  go_enter Tryz.func13, Tryz.ntmps13
  go_wp2_with fail
  refine (HONE.out _).mono ?_
  rintro e w1 ⟨rfl, k⟩
  have G := Box.mk (Gr.of k); clear k HONE
  go_upto_region 4 with (fail)
  try go_frame
  refine wp_region_seq 2 [.flo, .flo] (by rfl) rfl (by decide) ?_
  simp only [List.take, List.zip, List.zipWith]
  refine gm_move (.tmp 5) (.inl rfl) (.string H) rfl ?_
  try go_frame
  refine gm_slice (.tmp 16) none (some (.const (.int .i64 32))) none rfl (.string (H.extract 0 32)) (run_lo32 HSZ.out) ?_
  try go_frame
  refine gm_nil ?_
  intro W1 hw7 _
  simp only [List.drop]
  try go_frame
  replace G := Box.mk (G.out.trans hw7); clear hw7
  have hlo := lo_size HSZ.out
  obtain ⟨cap, C, fr, hcv, hown⟩ := run_tobytes (P := Tryz.prog) 9 38 5 (H.extract 0 32) Tryz.underlying9 Tryz.underlying38 Tryz.underlying5 (by omega) w.heap.size W1 (G.out.size)
  obtain ⟨W2, hW2⟩ : ∃ W, W = (W1.alloc (.cells C 5 fr)).drew := ⟨_, rfl⟩
  rw [← hW2] at hcv
  have hg2 : Gr W1 W2 := by rw [hW2]; exact bdrewN (Gr.alloc W1 _) 1
  obtain ⟨bb, hbb⟩ : ∃ b, b = W1.heap.size := ⟨_, rfl⟩
  rw [← hbb] at hcv hown
  rw [hlo] at hcv hown
  obtain ⟨L, hL⟩ : ∃ L, L = H.data.toList.take 32 := ⟨_, rfl⟩
  rw [lo_list, ← hL] at hown
  have hLl : L.length = 32 := by rw [hL, List.length_take]; have : H.data.toList.length = 64 := by rw [← HSZ.out]; simp
                                 omega
  have OW := Box.mk (show Own W2 w.heap.size 5 (.slice (some ⟨bb, 0, none⟩) 32 cap) 32 (L.map byv) from by rw [hW2]; exact hown.drew)
  go_upto_region 5 with (fail)
  try go_frame
  rw [← hW2, ← hbb]
  replace G := Box.mk (G.out.trans hg2)
  have hbge : w.heap.size ≤ bb := (OW.out.lt _ rfl).1
  clear hcv hown hg2 hW2 hbb hlo
  obtain ⟨c0, h0⟩ : ∃ c, L[0]? = some c := ⟨L[0], List.getElem?_eq_getElem (by omega)⟩
  obtain ⟨c1, h1⟩ : ∃ c, L[31]? = some c := ⟨L[31], List.getElem?_eq_getElem (by omega)⟩
  have i0 : (L.map byv)[0]? = some (byv c0) := by rw [List.getElem?_map, h0]; rfl
  obtain ⟨hc, hf⟩ := Own.at OW.out 0 _ i0
  obtain ⟨d0, hd0⟩ : ∃ d, d = c0 &&& 248 := ⟨_, rfl⟩
  have hand := u8_and248 c0
  rw [← hd0] at hand
  have HD0 := Box.mk hd0; clear hd0
  have hset := Own.set OW.out 0 (byv d0) (by omega)
  rw [← List.map_set] at hset
  unfold byv at hc
  obtain ⟨W3, hW3⟩ : ∃ W, W = W2.setCell ⟨bb, 0, none⟩ (.int .u8 (d0.toNat : Int)) := ⟨_, rfl⟩
  have OW3 := Box.mk (show Own W3 w.heap.size 5 (.slice (some ⟨bb, 0, none⟩) 32 cap) 32 ((L.set 0 d0).map byv) from by rw [hW3]; exact hset)
  clear hset i0
  go_upto_region 6 with (fail)
  try go_frame
  rw [← hW3]
  replace G := Box.mk (show Gr w W3 from by rw [hW3]; exact G.out.setCell hbge _)
  clear hW3 hc hf hand OW
  have i1 : ((L.set 0 d0).map byv)[31]? = some (byv c1) := by rw [List.getElem?_map, List.getElem?_set_ne (by omega), h1]; rfl
  obtain ⟨hc, hf⟩ := Own.at OW3.out 31 _ i1
  obtain ⟨e1, he1⟩ : ∃ d, d = c1 &&& 63 := ⟨_, rfl⟩
  obtain ⟨d1, hd1⟩ : ∃ d, d = e1 ||| 64 := ⟨_, rfl⟩
  have hand := u8_and63 c1
  have hor := u8_or64 e1
  rw [← he1] at hand
  rw [← hd1] at hor
  have HE1 := Box.mk he1; have HD1 := Box.mk hd1; clear he1 hd1
  have hset := Own.set OW3.out 31 (byv d1) (by omega)
  rw [← List.map_set] at hset
  unfold byv at hc
  obtain ⟨W4, hW4⟩ : ∃ W, W = W3.setCell ⟨bb, 31, none⟩ (.int .u8 (d1.toNat : Int)) := ⟨_, rfl⟩
  have OW4 := Box.mk (show Own W4 w.heap.size 5 (.slice (some ⟨bb, 0, none⟩) 32 cap) 32 (((L.set 0 d0).set 31 d1).map byv) from by rw [hW4]; exact hset)
  clear hset i1
  go_upto_region 7 with (fail)
  try go_frame
  rw [← hW4]
  replace G := Box.mk (show Gr w W4 from by rw [hW4]; exact G.out.setCell hbge _)
  clear hW4 hc hf hand hor OW3
  have hsec : (⟨((L.set 0 d0).set 31 d1).toArray⟩ : ByteArray) = secS s := by
    rw [ESEC.out, ← hL]
    unfold secL
    rw [List.getD_eq_getElem?_getD, List.getD_eq_getElem?_getD, h0, h1]
    simp only [Option.getD_some]
    rw [← HD0.out, ← HE1.out, ← HD1.out]
  obtain ⟨sc', hsc⟩ : ∃ t, t = secS s := ⟨_, rfl⟩
  rw [← hsc] at hsec
  have HSC := Box.mk hsc; clear hsc
  refine wp_region_mix 6 [.flo, .flo, .flo, .flo, .flo, .flo] (by kernel_rfl) (by kernel_rfl) rfl ?_
  simp only [List.take, List.zip, List.zipWith]
  refine gm_move (.tmp 7) (.inl rfl) (.slice (some ⟨bb, 0, none⟩) 32 cap) rfl ?_
  try go_frame
  refine gm_convS (.tmp 31) rfl (.string sc') (fun wc hwc => by
    have hst := run_str_Own (P := Tryz.prog) (src := 38) (dst := 9) (OW4.out.drew.below (GrS.toGr hwc)) (by intro h; cases h) Tryz.underlying38 Tryz.underlying5 Tryz.underlying9
    rw [hsec] at hst
    exact hst) ?_
  try go_frame
  refine gm_move (.tmp 5) (.inl rfl) (.string H) rfl ?_
  try go_frame
  refine gm_slice (.tmp 33) (some (.const (.int .i64 32))) none none rfl (.string (H.extract 32 64)) (run_hi32 HSZ.out) ?_
  try go_frame
  refine gm_move (.tmp 32) (.inr rfl) (.string sc') rfl ?_
  try go_frame
  refine gm_move (.tmp 34) (.inr rfl) (.string (H.extract 32 64)) rfl ?_
  try go_frame
  refine gm_nil ?_
  intro W5 hw7 _
  simp only [List.drop]
  try go_frame
  replace G := Box.mk (G.out.trans (Gr.trans (show Gr W4 W4.drew from (Below.refl _ _).drew) hw7)); clear hw7
  go_wp2_with fail
  refine bodyPost_ret (results_tmp3 rfl _ _ _) rfl ⟨?_, G.out⟩
  rw [EPRE.out, ← HSC.out]; rfl
set_option maxRecDepth 100000 in
set_option maxHeartbeats 4000000 in
theorem parts_no (s : ByteArray) (hs : s.size ≠ 32) (w : World) : Calls Tryz.prog 13 #[.string s] w fun e w' => e = .returned (.tuple #[.string ⟨#[]⟩, .string ⟨#[]⟩, .bool false]) ∧ Gr w w' := by
  have hs' : ((s.size : Int) == 32) = false := by rw [beq_eq_false_iff_ne]; omega
  clear hs
  go_enter Tryz.func13, Tryz.ntmps13
  go_wp2
  exact bodyPost_ret (results_tmp3 rfl _ _ _) rfl ⟨rfl, Gr.refl _⟩
set_option maxRecDepth 100000 in
set_option maxHeartbeats 4000000 in
theorem public_yes (s : ByteArray) (hs : s.size = 32) (w : World) : Calls Tryz.prog 6 #[.string s] w fun e w' => ∃ t, Box (Pt t (CP.base.mul (Go.Proofs.YtedmkpdohffigaaGreat.num (secS s)))) ∧ e = .returned (.tuple #[.string t, .int .i64 0]) ∧ Gr w w' := by
  have HP := Box.mk (parts_yes s hs)
  obtain ⟨a, ha⟩ : ∃ a, a = secS s := ⟨_, rfl⟩
  obtain ⟨b, hb⟩ : ∃ b, b = preS s := ⟨_, rfl⟩
  have HA := Box.mk (show a.size = 32 from by rw [ha]; exact secS_size s)
  rw [← ha, ← hb] at HP
  rw [← ha]
  clear ha hb hs
  go_enter Tryz.func6, Tryz.ntmps6
  go_wp2_with fail
  refine (HP.out _).mono ?_
  rintro e w1 ⟨rfl, k⟩
  have G := Box.mk (Gr.of k); clear k
  go_wp2_with fail
  refine (cbase _).mono ?_
  rintro e w2 ⟨B, HB, rfl, k⟩
  replace G := Box.mk (G.out.trans k); clear k
  go_wp2_with fail
  refine (cmul HB.out HA.out _).mono ?_
  rintro e w3 ⟨T, HT, rfl, k⟩
  replace G := Box.mk (G.out.trans k); clear k
  go_wp2
  go_ret2
  exact ⟨T, HT, rfl, G.out⟩
set_option maxRecDepth 100000 in
set_option maxHeartbeats 4000000 in
theorem public_no (s : ByteArray) (hs : s.size ≠ 32) (w : World) : Calls Tryz.prog 6 #[.string s] w fun e w' => e = .returned (.tuple #[.string ⟨#[]⟩, .int .i64 70]) ∧ Gr w w' := by
  have HP := Box.mk (parts_no s hs)
  clear hs
  go_enter Tryz.func6, Tryz.ntmps6
  go_wp2_with fail
  refine (HP.out _).mono ?_
  rintro e w4 ⟨rfl, k⟩
  have G := Box.mk (Gr.of k); clear k
  go_wp2
  go_ret2
  exact ⟨rfl, G.out⟩
/-- What a signature is: the point's bytes and the number's. -/
structure SigOf (s m t : ByteArray) : Prop where
  mk' : ∃ R K S : ByteArray, t = R ++ S ∧ Pt R (CP.base.mul (Go.Proofs.YtedmkpdohffigaaGreat.num (redL (catL [preS s, m])))) ∧ Pt K (CP.base.mul (Go.Proofs.YtedmkpdohffigaaGreat.num (secS s))) ∧
    S = sc (Go.Proofs.YtedmkpdohffigaaGreat.num (redL (catL [preS s, m])) + Go.Proofs.YtedmkpdohffigaaGreat.num (sc (Go.Proofs.YtedmkpdohffigaaGreat.num (redL (catL [R, K, m])) * Go.Proofs.YtedmkpdohffigaaGreat.num (secS s))))
set_option maxRecDepth 100000 in
set_option maxHeartbeats 4000000 in
theorem sign_yes (s m : ByteArray) (hs : s.size = 32) (hm : m.size ≤ 1000) (w : World) : Calls Tryz.prog 8 #[.string s, .string m] w fun e w' => ∃ t, Box (SigOf s m t) ∧ e = .returned (.tuple #[.string t, .int .i64 0]) ∧ Gr w w' := by
  have HP := Box.mk (parts_yes s hs); have HPU := Box.mk (public_yes s hs); have HM := Box.mk hm
  obtain ⟨a, ha⟩ : ∃ a, a = secS s := ⟨_, rfl⟩
  obtain ⟨b, hb⟩ : ∃ b, b = preS s := ⟨_, rfl⟩
  have HA := Box.mk (show a.size = 32 from by rw [ha]; exact secS_size s)
  have HB := Box.mk (show b.size = 32 from by rw [hb]; exact hi_size (size64 _))
  have EA := Box.mk ha; have EB := Box.mk hb
  rw [← ha] at HPU
  rw [← ha, ← hb] at HP
  clear ha hb hs hm
  go_enter Tryz.func8, Tryz.ntmps8
  go_wp2_with fail
  refine (HP.out _).mono ?_
  rintro e w5 ⟨rfl, k⟩
  have G := Box.mk (Gr.of k); clear k
  go_wp2_with fail
  refine (HPU.out _).mono ?_
  rintro e w6 ⟨K, HK, rfl, k⟩
  replace G := Box.mk (G.out.trans k); clear k
  go_wp2_with fail
  refine (red2 b m (by have := HB.out; omega) (by have := HM.out; omega) _).mono ?_
  rintro e w7 ⟨rfl, k⟩
  replace G := Box.mk (G.out.trans k); clear k
  obtain ⟨r, hr⟩ : ∃ r, r = redL (catL [b, m]) := ⟨_, rfl⟩
  rw [← hr]
  have HR := Box.mk (show r.size = 32 from by rw [hr]; exact redL_size _); have ER := Box.mk hr
  clear hr
  go_wp2_with fail
  refine (cbase _).mono ?_
  rintro e w8 ⟨B0, HB0, rfl, k⟩
  replace G := Box.mk (G.out.trans k); clear k
  go_wp2_with fail
  refine (cmul HB0.out HR.out _).mono ?_
  rintro e w9 ⟨R, HRP, rfl, k⟩
  replace G := Box.mk (G.out.trans k); clear k
  go_wp2_with fail
  refine (red3 R K m (by have := HRP.out.size; omega) (by have := HK.out.size; omega) (by have := HM.out; omega) _).mono ?_
  rintro e w10 ⟨rfl, k⟩
  replace G := Box.mk (G.out.trans k); clear k
  obtain ⟨h, hh⟩ : ∃ h, h = redL (catL [R, K, m]) := ⟨_, rfl⟩
  rw [← hh]
  have HH := Box.mk (show h.size = 32 from by rw [hh]; exact redL_size _); have EH := Box.mk hh
  clear hh
  go_wp2_with fail
  refine (sml h a HH.out HA.out _).mono ?_
  rintro e w11 ⟨rfl, k⟩
  replace G := Box.mk (G.out.trans k); clear k
  obtain ⟨q, hq⟩ : ∃ q, q = sc (Go.Proofs.YtedmkpdohffigaaGreat.num h * Go.Proofs.YtedmkpdohffigaaGreat.num a) := ⟨_, rfl⟩
  rw [← hq]
  have HQ := Box.mk (show q.size = 32 from by rw [hq]; exact sc_size _); have EQ := Box.mk hq
  clear hq
  go_wp2_with fail
  refine (sad r q HR.out HQ.out _).mono ?_
  rintro e w12 ⟨rfl, k⟩
  replace G := Box.mk (G.out.trans k); clear k
  obtain ⟨S, hS⟩ : ∃ z, z = sc (Go.Proofs.YtedmkpdohffigaaGreat.num r + Go.Proofs.YtedmkpdohffigaaGreat.num q) := ⟨_, rfl⟩
  rw [← hS]
  have ES := Box.mk hS
  have hRs := HRP.out.size
  have hSs : S.size = 32 := by rw [hS]; exact sc_size _
  have hadd : R.size + S.size ≤ 9223372036854775807 := by omega
  clear hS hRs hSs
  go_wp2
  go_ret2
  refine ⟨R ++ S, ⟨⟨R, K, S, rfl, ?_, ?_, ?_⟩⟩, rfl, G.out⟩
  · rw [← EB.out, ← ER.out]; exact HRP.out
  · rw [← EA.out]; exact HK.out
  · rw [← EB.out, ← ER.out, ← EA.out, ← EH.out, ← EQ.out]; exact ES.out
set_option maxRecDepth 100000 in
set_option maxHeartbeats 4000000 in
theorem sign_no (s m : ByteArray) (hs : s.size ≠ 32) (w : World) : Calls Tryz.prog 8 #[.string s, .string m] w fun e w' => e = .returned (.tuple #[.string ⟨#[]⟩, .int .i64 70]) ∧ Gr w w' := by
  have HP := Box.mk (parts_no s hs)
  clear hs
  go_enter Tryz.func8, Tryz.ntmps8
  go_wp2_with fail
  refine (HP.out _).mono ?_
  rintro e w13 ⟨rfl, k⟩
  have G := Box.mk (Gr.of k); clear k
  go_wp2
  go_ret2
  exact ⟨rfl, G.out⟩
/-- What Verify asks. -/
def VerP (key m sig : ByteArray) : Prop := ∃ A R : CP, Pt key A ∧ sig.size = 64 ∧ Pt (sig.extract 0 32) R ∧ Go.Proofs.YtedmkpdohffigaaGreat.num (sig.extract 32 64) < oL ∧
  CP.base.mul (Go.Proofs.YtedmkpdohffigaaGreat.num (sig.extract 32 64)) = R.add (A.mul (Go.Proofs.YtedmkpdohffigaaGreat.num (redL (catL [sig.extract 0 32, key, m]))))
set_option maxRecDepth 100000 in
set_option maxHeartbeats 4000000 in
theorem verify_any (key m sig : ByteArray) (hm : m.size ≤ 1000) (w : World) : Calls Tryz.prog 11 #[.string key, .string m, .string sig] w fun e w' => ∃ b, e = .returned (.bool b) ∧ (b = true ↔ VerP key m sig) ∧ Gr w w' := by
  have HM := Box.mk hm; clear hm
  by_cases hs : sig.size = 64
  ·
    have hsI : (sig.size : Int) = 64 := by omega
    have HS := Box.mk hs; clear hs
    rcases pt_or key with ⟨A, h⟩ | h
    ·
      have HA := Box.mk h; clear h
      obtain ⟨P, hP⟩ : ∃ P, P = sig.extract 0 32 := ⟨_, rfl⟩
      obtain ⟨S, hS⟩ : ∃ S, S = sig.extract 32 64 := ⟨_, rfl⟩
      have HP := Box.mk hP; have HSS := Box.mk hS
      have hPs : P.size = 32 := by rw [hP]; exact lo_size HS.out
      have hSs : S.size = 32 := by rw [hS]; exact hi_size HS.out
      have HPZ := Box.mk hPs; have HSZ := Box.mk hSs
      clear hPs hSs hP hS
      go_enter Tryz.func11, Tryz.ntmps11
      go_wp2_with fail
      refine (cis HA.out _).mono ?_
      rintro e w14 ⟨rfl, k⟩
      have G := Box.mk (Gr.of k); clear k
      go_upto_region 3 with (fail)
      try go_frame
      refine wp_region_mix 5 [.flo, .flo, .flo, .flo, .flo] (by kernel_rfl) (by kernel_rfl) rfl ?_
      simp only [List.take, List.zip, List.zipWith]
      refine gm_move (.tmp 2) (.inl rfl) (.string sig) rfl ?_
      try go_frame
      refine gm_slice (.tmp 23) none (some (.const (.int .i64 32))) none rfl (.string P) (by rw [HP.out]; exact run_lo32 HS.out) ?_
      try go_frame
      refine gm_move (.tmp 2) (.inl rfl) (.string sig) rfl ?_
      try go_frame
      refine gm_slice (.tmp 25) (some (.const (.int .i64 32))) none none rfl (.string S) (by rw [HSS.out]; exact run_hi32 HS.out) ?_
      try go_frame
      refine gm_move (.tmp 24) (.inr rfl) (.string P) rfl ?_
      try go_frame
      refine gm_nil ?_
      intro W1 hw7 _
      simp only [List.drop]
      try go_frame
      replace G := Box.mk (G.out.trans (Gr.trans (show Gr w14 w14.drew from (Below.refl _ _).drew) hw7)); clear hw7
      rcases pt_or P with ⟨R, h⟩ | h
      ·
        have HR := Box.mk h; clear h
        by_cases hlt : S.size = 32 ∧ Go.Proofs.YtedmkpdohffigaaGreat.num S < ordL
        ·
          have HIS := Box.mk (fun v => (decide_eq_true hlt) ▸ sis S v)
          have HLT := Box.mk (show Go.Proofs.YtedmkpdohffigaaGreat.num S < oL from by rw [oL_ordL]; exact hlt.2)
          clear hlt
          go_wp2_with fail
          refine (cis HR.out _).mono ?_
          rintro e w15 ⟨rfl, k⟩
          replace G := Box.mk (G.out.trans k); clear k
          go_wp2_with fail
          refine (HIS.out _).mono ?_
          rintro e w16 ⟨rfl, k⟩
          replace G := Box.mk (G.out.trans k); clear k
          go_wp2_with fail
          refine (cbase _).mono ?_
          rintro e w17 ⟨B0, HB0, rfl, k⟩
          replace G := Box.mk (G.out.trans k); clear k
          go_wp2_with fail
          refine (cmul HB0.out HSZ.out _).mono ?_
          rintro e w18 ⟨L, HL, rfl, k⟩
          replace G := Box.mk (G.out.trans k); clear k
          go_wp2_with fail
          refine (red3 P key m (by have := HPZ.out; omega) (by have := HA.out.size; omega) (by have := HM.out; omega) _).mono ?_
          rintro e w19 ⟨rfl, k⟩
          replace G := Box.mk (G.out.trans k); clear k
          obtain ⟨h, hh⟩ : ∃ h, h = redL (catL [P, key, m]) := ⟨_, rfl⟩
          rw [← hh]
          have HH := Box.mk (show h.size = 32 from by rw [hh]; exact redL_size _); have EH := Box.mk hh
          clear hh
          go_wp2_with fail
          refine (cmul HA.out HH.out _).mono ?_
          rintro e w20 ⟨K, HK, rfl, k⟩
          replace G := Box.mk (G.out.trans k); clear k
          go_wp2_with fail
          refine (cadd HR.out HK.out _).mono ?_
          rintro e w21 ⟨T, HT, rfl, k⟩
          replace G := Box.mk (G.out.trans k); clear k
          by_cases hq : CP.base.mul (Go.Proofs.YtedmkpdohffigaaGreat.num S) = R.add (A.mul (Go.Proofs.YtedmkpdohffigaaGreat.num h))
          ·
            have q1 : (L.toList == T.toList) = true := HL.out.same HT.out hq
            have HQ := Box.mk hq; clear hq
            go_wp2
            go_ret
            exact ⟨true, rfl, ⟨fun _ => ⟨A, R, HA.out, HS.out, HP.out ▸ HR.out, HSS.out ▸ HLT.out, by rw [← HP.out, ← HSS.out, ← EH.out]; exact HQ.out⟩, fun _ => rfl⟩, G.out⟩
          ·
            have q1 : (L.toList == T.toList) = false := HL.out.other HT.out hq
            have HQ := Box.mk hq; clear hq
            go_wp2
            go_ret
            refine ⟨false, rfl, ⟨(fun h => by cases h), fun ⟨A', R', h1, _, h2, _, h3⟩ => (HQ.out ?_).elim⟩, G.out⟩
            obtain rfl : A' = A := encP_inj (h1.eq.symm.trans HA.out.eq)
            rw [← HP.out] at h2 h3
            obtain rfl : R' = R := encP_inj (h2.eq.symm.trans HR.out.eq)
            rw [← HSS.out, ← EH.out] at h3
            exact h3
        ·
          have HIS := Box.mk (fun v => (decide_eq_false hlt) ▸ sis S v)
          have HLT := Box.mk hlt
          clear hlt
          go_wp2_with fail
          refine (cis HR.out _).mono ?_
          rintro e w22 ⟨rfl, k⟩
          replace G := Box.mk (G.out.trans k); clear k
          go_wp2_with fail
          refine (HIS.out _).mono ?_
          rintro e w23 ⟨rfl, k⟩
          replace G := Box.mk (G.out.trans k); clear k
          go_wp2
          go_ret
          refine ⟨false, rfl, ⟨(fun h => by cases h), fun ⟨_, _, _, _, _, h, _⟩ => (HLT.out ⟨HSZ.out, ?_⟩).elim⟩, G.out⟩
          rw [← HSS.out, oL_ordL] at h; exact h
      ·
        have HN := Box.mk h; clear h
        go_wp2_with fail
        refine (cis_no HN.out _).mono ?_
        rintro e w24 ⟨rfl, k⟩
        replace G := Box.mk (G.out.trans k); clear k
        go_wp2
        go_ret
        refine ⟨false, rfl, ⟨(fun h => by cases h), fun ⟨_, R, _, _, h, _⟩ => (HN.out R ?_).elim⟩, G.out⟩
        rw [HP.out]; exact h.eq.symm
    ·
      have HN := Box.mk h; clear h
      go_enter Tryz.func11, Tryz.ntmps11
      go_wp2_with fail
      refine (cis_no HN.out _).mono ?_
      rintro e w25 ⟨rfl, k⟩
      have G := Box.mk (Gr.of k); clear k
      go_wp2
      go_ret
      exact ⟨false, rfl, ⟨(fun h => by cases h), fun ⟨A, _, h, _⟩ => (HN.out A h.eq.symm).elim⟩, G.out⟩
  ·
    have hs' : ((sig.size : Int) == 64) = false := by rw [beq_eq_false_iff_ne]; omega
    have HS := Box.mk hs; clear hs
    go_enter Tryz.func11, Tryz.ntmps11
    go_wp2
    go_ret
    exact ⟨false, rfl, ⟨(fun h => by cases h), fun ⟨_, _, _, h, _⟩ => (HS.out h).elim⟩, Gr.refl _⟩
end Go.Proofs.YtedmkpdohffigaaGreat.Fe
namespace Go.Proofs.YtedmkpdohffigaaGreat.Fe
set_option linter.unusedVariables false
open Go Go.RowKit Go.Proofs.YtedmkpdohffigaaGreat.Sha

theorem cat_lo {a b : ByteArray} (h : a.size = 32) (hb : b.size = 32) : (a ++ b).extract 0 32 = a := by
  refine bytes_ext ?_
  have hl : a.data.toList.length = 32 := by rw [← h]; simp
  rw [lo_list, ByteArray.data_append, Array.toList_append]
  exact List.take_left' hl
theorem cat_hi {a b : ByteArray} (h : a.size = 32) (hb : b.size = 32) : (a ++ b).extract 32 64 = b := by
  refine bytes_ext ?_
  have hl : a.data.toList.length = 32 := by rw [← h]; simp
  have hl2 : b.data.toList.length = 32 := by rw [← hb]; simp
  rw [ByteArray.data_extract, Array.toList_extract, List.extract_eq_take_drop, ByteArray.data_append, Array.toList_append, List.drop_left' hl]
  exact List.take_of_length_le (by omega)
theorem cat_size {a b : ByteArray} (h : a.size = 32) (hb : b.size = 32) : (a ++ b).size = 64 := by rw [ByteArray.size_append]; omega
theorem cut_cat {s : ByteArray} (h : s.size = 64) : s.extract 0 32 ++ s.extract 32 64 = s := by
  refine bytes_ext ?_
  have hl : s.data.toList.length = 64 := by rw [← h]; simp
  have hd : (s.data.toList.drop 32).take (64 - 32) = s.data.toList.drop 32 := List.take_of_length_le (by rw [List.length_drop]; omega)
  rw [ByteArray.data_append, Array.toList_append, lo_list, ByteArray.data_extract, Array.toList_extract, List.extract_eq_take_drop, hd, List.take_append_drop]
theorem base_congr {a b : Nat} (h : a % oL = b % oL) : CP.base.mul a = CP.base.mul b := by rw [← base_mod a, ← base_mod b, h]
theorem base_eq {a b : Nat} (h : CP.base.mul a = CP.base.mul b) : a % oL = b % oL := by
  rw [← base_mod a, ← base_mod b] at h
  exact base_apart (Nat.mod_lt _ oL_pos) (Nat.mod_lt _ oL_pos) h
/-- Points told by their bytes. -/
theorem Pt.uniq {s : ByteArray} {p q : CP} (h : Pt s p) (k : Pt s q) : p = q := encP_inj (h.eq.symm.trans k.eq)
/-- What was signed is verified. -/
theorem SigOf.size {s m t : ByteArray} (h : SigOf s m t) : t.size = 64 := by
  obtain ⟨R, K, S, rfl, hR, _, hS⟩ := h.mk'
  exact cat_size hR.size (by rw [hS]; exact sc_size _)
theorem sig_num (r h a : Nat) : CP.base.mul (Go.Proofs.YtedmkpdohffigaaGreat.num (sc (r + Go.Proofs.YtedmkpdohffigaaGreat.num (sc (h * a))))) = (CP.base.mul r).add ((CP.base.mul a).mul h) := by
  rw [← CP.mul_mul, ← CP.mul_add, num_sc, num_sc]
  refine base_congr ?_
  rw [← oL_ordL, Nat.mod_mod, Nat.add_mod_mod, Nat.mul_comm]
theorem SigOf.ver {s m t K : ByteArray} (h : SigOf s m t) (hK : Pt K (CP.base.mul (Go.Proofs.YtedmkpdohffigaaGreat.num (secS s)))) : VerP K m t := by
  obtain ⟨R, K', S, rfl, hR, hK', hS⟩ := h.mk'
  obtain rfl : K' = K := hK'.eq.trans hK.eq.symm
  have hSs : S.size = 32 := by rw [hS]; exact sc_size _
  refine ⟨_, _, hK, cat_size hR.size hSs, by rw [cat_lo hR.size hSs]; exact hR, ?_, ?_⟩
  · rw [cat_hi hR.size hSs, hS, num_sc, oL_ordL]; exact Nat.mod_lt _ ordL_pos
  · rw [cat_hi hR.size hSs, cat_lo hR.size hSs]
    conv => lhs; rw [hS]
    exact sig_num _ _ _
/-- Of one key, message and point one number. -/
theorem VerP.once {K m t u : ByteArray} (h : VerP K m t) (k : VerP K m u) (he : t.extract 0 32 = u.extract 0 32) : t = u := by
  obtain ⟨A, R, hA, ht, hR, hl, e⟩ := h
  obtain ⟨A', R', hA', hu, hR', hl', e'⟩ := k
  obtain rfl := hA.uniq hA'
  rw [he] at hR e
  obtain rfl := hR.uniq hR'
  have h1 := base_apart hl hl' (e.trans e'.symm)
  have h2 : t.extract 32 64 = u.extract 32 64 := bytes_inj (by rw [hi_size ht, hi_size hu]) h1
  rw [← cut_cat ht, ← cut_cat hu, he, h2]
/-- A multiple of the base, as its bytes. -/
theorem enc_base (n X Y f : Nat) (hn : n < 2 ^ f) (h : (X * (manyT fp dN ⟨bX, bY, 1⟩ f n).Z % fp == (manyT fp dN ⟨bX, bY, 1⟩ f n).X % fp && Y * (manyT fp dN ⟨bX, bY, 1⟩ f n).Z % fp == (manyT fp dN ⟨bX, bY, 1⟩ f n).Y % fp) = true) :
    encP (CP.base.mul n) = sbytes (Y % fp + 2 ^ 255 * (X % fp % 2)) := by
  have hr := RepT.base.many f n hn
  generalize manyT fp dN ⟨bX, bY, 1⟩ f n = t at h hr
  simp only [Bool.and_eq_true, beq_iff_eq] at h
  have hx : (CP.base.mul n).x = fv X := f_cancel hr.z (by
    have h1 := hr.x
    have h2 : fv X * fv t.Z = fv t.X := by rw [← fv_mul]; exact fv_eq h.1
    rw [← h2] at h1; grind)
  have hy : (CP.base.mul n).y = fv Y := f_cancel hr.z (by
    have h1 := hr.y
    have h2 : fv Y * fv t.Z = fv t.Y := by rw [← fv_mul]; exact fv_eq h.2
    rw [← h2] at h1; grind)
  unfold encP
  rw [hx, hy, fv_val, fv_val]
theorem sum_row (l : List UInt8) : sumS 1 l = ⟨(k512.sum l).toArray⟩ := rfl
def seedV : ByteArray := ⟨#[157, 97, 177, 157, 239, 253, 90, 96, 186, 132, 74, 244, 146, 236, 44, 196, 68, 73, 197, 105, 123, 50, 105, 25, 112, 59, 172, 3, 28, 174, 127, 96]⟩
def keyV : ByteArray := ⟨#[215, 90, 152, 1, 130, 177, 10, 183, 213, 75, 254, 211, 201, 100, 7, 58, 14, 225, 114, 243, 218, 166, 35, 37, 175, 2, 26, 104, 247, 7, 81, 26]⟩
def ptV : ByteArray := ⟨#[229, 86, 67, 0, 195, 96, 172, 114, 144, 134, 226, 204, 128, 110, 130, 138, 132, 135, 127, 30, 184, 229, 217, 116, 216, 115, 224, 101, 34, 73, 1, 85]⟩
@[irreducible] def secN : Nat := 36144925721603087658594284515452164870581325872720374094707712194495455132720
@[irreducible] def rN : Nat := 2015312323900227545039973048451112962192803170366412514267238242679089760755
theorem secN_eq : secN = 36144925721603087658594284515452164870581325872720374094707712194495455132720 := by unfold secN; first | done | rfl
theorem rN_eq : rN = 2015312323900227545039973048451112962192803170366412514267238242679089760755 := by unfold rN; first | done | rfl
theorem hash_seed : k512.sum [157, 97, 177, 157, 239, 253, 90, 96, 186, 132, 74, 244, 146, 236, 44, 196, 68, 73, 197, 105, 123, 50, 105, 25, 112, 59, 172, 3, 28, 174, 127, 96] = [53, 124, 131, 134, 79, 40, 51, 203, 66, 122, 46, 241, 192, 10, 1, 60, 253, 255, 39, 104, 217, 128, 192, 163, 165, 32, 240, 6, 144, 77, 233, 15, 155, 79, 10, 254, 40, 11, 116, 106, 119, 134, 132, 231, 84, 66, 80, 32, 87, 183, 71, 58, 3, 240, 143, 150, 245, 163, 142, 146, 135, 224, 31, 143] := by decide +kernel
theorem seed_hash : hashS seedV = ⟨#[53, 124, 131, 134, 79, 40, 51, 203, 66, 122, 46, 241, 192, 10, 1, 60, 253, 255, 39, 104, 217, 128, 192, 163, 165, 32, 240, 6, 144, 77, 233, 15, 155, 79, 10, 254, 40, 11, 116, 106, 119, 134, 132, 231, 84, 66, 80, 32, 87, 183, 71, 58, 3, 240, 143, 150, 245, 163, 142, 146, 135, 224, 31, 143]⟩ := by
  show sumS 1 seedV.data.toList = _
  rw [sum_row, show seedV.data.toList = [157, 97, 177, 157, 239, 253, 90, 96, 186, 132, 74, 244, 146, 236, 44, 196, 68, 73, 197, 105, 123, 50, 105, 25, 112, 59, 172, 3, 28, 174, 127, 96] from rfl, hash_seed]
theorem seed_sec : secS seedV = ⟨#[48, 124, 131, 134, 79, 40, 51, 203, 66, 122, 46, 241, 192, 10, 1, 60, 253, 255, 39, 104, 217, 128, 192, 163, 165, 32, 240, 6, 144, 77, 233, 79]⟩ := by
  unfold secS; rw [seed_hash]; decide +kernel
theorem seed_num : Go.Proofs.YtedmkpdohffigaaGreat.num (secS seedV) = secN := by rw [seed_sec, secN_eq]; decide +kernel
theorem seed_pre : preS seedV = ⟨#[155, 79, 10, 254, 40, 11, 116, 106, 119, 134, 132, 231, 84, 66, 80, 32, 87, 183, 71, 58, 3, 240, 143, 150, 245, 163, 142, 146, 135, 224, 31, 143]⟩ := by
  unfold preS; rw [seed_hash]; decide +kernel
theorem seed_key : Pt keyV (CP.base.mul secN) := ⟨by
  have h := enc_base secN 38815646466658113194383306759739515082307681141926459231621296960732224964046 11903303657706407974989296177215005343713679411332034699907763981919547054807 255 (by rw [secN_eq]; decide) (by rw [fp_eq, dN_eq, bX_eq, bY_eq, secN_eq]; decide +kernel)
  rw [h, fp_eq]; exact bytes_ext (by decide +kernel)⟩
theorem hash_r : k512.sum [155, 79, 10, 254, 40, 11, 116, 106, 119, 134, 132, 231, 84, 66, 80, 32, 87, 183, 71, 58, 3, 240, 143, 150, 245, 163, 142, 146, 135, 224, 31, 143] = [182, 177, 156, 216, 224, 66, 111, 89, 131, 250, 17, 45, 137, 161, 67, 170, 151, 218, 184, 188, 93, 235, 141, 91, 98, 83, 201, 40, 182, 82, 114, 244, 4, 64, 152, 194, 169, 144, 3, 156, 222, 91, 106, 72, 24, 223, 11, 251, 110, 64, 220, 93, 238, 84, 36, 128, 50, 150, 35, 35, 231, 1, 53, 45] := by decide +kernel
theorem seed_r : Go.Proofs.YtedmkpdohffigaaGreat.num (redL (catL [preS seedV, ⟨#[]⟩])) = rN := by
  have e : catL [preS seedV, ⟨#[]⟩] = [155, 79, 10, 254, 40, 11, 116, 106, 119, 134, 132, 231, 84, 66, 80, 32, 87, 183, 71, 58, 3, 240, 143, 150, 245, 163, 142, 146, 135, 224, 31, 143] := by rw [seed_pre]; decide +kernel
  rw [redL_num, e, sum_row, hash_r, oL_eq, rN_eq]; decide +kernel
theorem seed_pt : Pt ptV (CP.base.mul rN) := ⟨by
  have h := enc_base rN 44370630452101398467924320556439323233869374150616132215183787387252341590058 38448863731492799660668882834560725606410712239157980760146247592118262650597 253 (by rw [rN_eq]; decide) (by rw [fp_eq, dN_eq, bX_eq, bY_eq, rN_eq]; decide +kernel)
  rw [h, fp_eq]; exact bytes_ext (by decide +kernel)⟩
theorem hash_h : k512.sum [229, 86, 67, 0, 195, 96, 172, 114, 144, 134, 226, 204, 128, 110, 130, 138, 132, 135, 127, 30, 184, 229, 217, 116, 216, 115, 224, 101, 34, 73, 1, 85, 215, 90, 152, 1, 130, 177, 10, 183, 213, 75, 254, 211, 201, 100, 7, 58, 14, 225, 114, 243, 218, 166, 35, 37, 175, 2, 26, 104, 247, 7, 81, 26] = [39, 113, 6, 43, 107, 83, 111, 231, 255, 189, 218, 3, 32, 195, 130, 123, 3, 93, 241, 13, 40, 77, 243, 240, 130, 34, 240, 77, 188, 167, 164, 194, 14, 241, 91, 220, 152, 138, 34, 199, 32, 116, 17, 55, 124, 51, 242, 172, 9, 177, 232, 106, 4, 98, 52, 40, 55, 104, 238, 123, 160, 60, 14, 159] := by decide +kernel
theorem hash_h2 : k512.sum [229, 86, 67, 0, 195, 96, 172, 114, 144, 134, 226, 204, 128, 110, 130, 138, 132, 135, 127, 30, 184, 229, 217, 116, 216, 115, 224, 101, 34, 73, 1, 85, 215, 90, 152, 1, 130, 177, 10, 183, 213, 75, 254, 211, 201, 100, 7, 58, 14, 225, 114, 243, 218, 166, 35, 37, 175, 2, 26, 104, 247, 7, 81, 26, 120] = [89, 237, 8, 166, 163, 128, 145, 157, 10, 68, 9, 165, 205, 19, 76, 171, 210, 246, 73, 242, 102, 43, 163, 213, 32, 18, 219, 124, 131, 20, 136, 214, 209, 201, 46, 32, 142, 7, 205, 226, 241, 76, 202, 64, 207, 136, 241, 82, 18, 166, 164, 25, 31, 25, 22, 42, 72, 4, 239, 65, 20, 139, 77, 2] := by decide +kernel
@[irreducible] def hN : Nat := 1958233733501237659471134851339390337284068724042047466985993338226439154310
@[irreducible] def h2N : Nat := 7105053535885340757715205778169356927404386393052748833402476575000598598480
theorem hN_eq : hN = 1958233733501237659471134851339390337284068724042047466985993338226439154310 := by unfold hN; first | done | rfl
theorem h2N_eq : h2N = 7105053535885340757715205778169356927404386393052748833402476575000598598480 := by unfold h2N; first | done | rfl
theorem seed_h : Go.Proofs.YtedmkpdohffigaaGreat.num (redL (catL [ptV, keyV, ⟨#[]⟩])) = hN := by
  have e : catL [ptV, keyV, ⟨#[]⟩] = [229, 86, 67, 0, 195, 96, 172, 114, 144, 134, 226, 204, 128, 110, 130, 138, 132, 135, 127, 30, 184, 229, 217, 116, 216, 115, 224, 101, 34, 73, 1, 85, 215, 90, 152, 1, 130, 177, 10, 183, 213, 75, 254, 211, 201, 100, 7, 58, 14, 225, 114, 243, 218, 166, 35, 37, 175, 2, 26, 104, 247, 7, 81, 26] := by decide +kernel
  rw [redL_num, e, sum_row, hash_h, oL_eq, hN_eq]; decide +kernel
theorem seed_h2 : Go.Proofs.YtedmkpdohffigaaGreat.num (redL (catL [ptV, keyV, ⟨#[120]⟩])) = h2N := by
  have e : catL [ptV, keyV, ⟨#[120]⟩] = [229, 86, 67, 0, 195, 96, 172, 114, 144, 134, 226, 204, 128, 110, 130, 138, 132, 135, 127, 30, 184, 229, 217, 116, 216, 115, 224, 101, 34, 73, 1, 85, 215, 90, 152, 1, 130, 177, 10, 183, 213, 75, 254, 211, 201, 100, 7, 58, 14, 225, 114, 243, 218, 166, 35, 37, 175, 2, 26, 104, 247, 7, 81, 26, 120] := by decide +kernel
  rw [redL_num, e, sum_row, hash_h2, oL_eq, h2N_eq]; decide +kernel
/-- The fixed signature's parts. -/
theorem sig_parts {t : ByteArray} (h : SigOf seedV ⟨#[]⟩ t) : t.extract 0 32 = ptV ∧ CP.base.mul (Go.Proofs.YtedmkpdohffigaaGreat.num (t.extract 32 64)) = (CP.base.mul rN).add ((CP.base.mul secN).mul hN) := by
  obtain ⟨R, K, S, rfl, hR, hK, hS⟩ := h.mk'
  rw [seed_r] at hR hS
  rw [seed_num] at hK hS
  have hSs : S.size = 32 := by rw [hS]; exact sc_size _
  obtain rfl : R = ptV := hR.eq.trans seed_pt.eq.symm
  obtain rfl : K = keyV := hK.eq.trans seed_key.eq.symm
  rw [seed_h] at hS
  refine ⟨cat_lo hR.size hSs, ?_⟩
  rw [cat_hi hR.size hSs, hS]; exact sig_num _ _ _
theorem not_x {t : ByteArray} (h : SigOf seedV ⟨#[]⟩ t) : ¬ VerP keyV ⟨#[120]⟩ t := fun ⟨A, R, hA, _, hR, _, e⟩ => by
  obtain ⟨h1, h2⟩ := sig_parts h
  rw [h1] at hR e
  obtain rfl := hA.uniq seed_key
  obtain rfl := hR.uniq seed_pt
  rw [h2, seed_h2] at e
  have e2 := CP.cancel e
  rw [← CP.mul_mul, ← CP.mul_mul] at e2
  have e3 := base_eq e2
  rw [secN_eq, hN_eq, h2N_eq, oL_eq] at e3
  revert e3; decide +kernel
theorem not_empty {K m : ByteArray} : ¬ VerP K m ⟨#[]⟩ := fun ⟨_, _, _, h, _⟩ => by cases h
theorem short_any (s : ByteArray) (w : World) (hs : s.size ≤ maxLen) : Calls Tryz.prog 5 #[.string s] w fun e w' => ∃ t, Box (t.size ≤ 1000) ∧ e = .returned (.string t) ∧ Gr w w' := by
  rcases Nat.lt_or_ge s.size 1000 with h | h
  · have hI : (s.size : Int) < 1000 := by omega
    have e : min (s.size : Int) 1000 = (s.size : Int) := by omega
    go_enter Tryz.func5, Tryz.ntmps5
    go_wp2
    go_ret
    exact ⟨_, ⟨by first | omega | (simp [ByteArray.size_extract]; omega)⟩, rfl, Gr.refl _⟩
  · have hI : (1000 : Int) ≤ (s.size : Int) := by omega
    have e : min (s.size : Int) 1000 = 1000 := by omega
    go_enter Tryz.func5, Tryz.ntmps5
    go_wp2
    go_ret
    exact ⟨_, ⟨by first | omega | (simp [ByteArray.size_extract]; omega)⟩, rfl, Gr.refl _⟩
set_option maxRecDepth 100000 in
set_option maxHeartbeats 4000000 in
theorem lfixed7 (w : World) : Calls Tryz.prog 10 #[] w fun e w' => e = .returned (.bool true) ∧ Gr w w' := by
  have HPU := Box.mk (public_yes seedV rfl)
  have HSI := Box.mk (sign_yes seedV ⟨#[]⟩ rfl (by decide))
  have HPN := Box.mk (public_no ⟨#[]⟩ (by decide))
  have HSN := Box.mk (sign_no ⟨#[120]⟩ ⟨#[]⟩ (by decide))
  go_enter Tryz.func10, Tryz.ntmps10
  go_wp2_with fail
  refine (HPU.out _).mono ?_
  rintro e w1 ⟨K, HK, rfl, k⟩
  have G := Box.mk (Gr.of k); clear k
  go_wp2_with fail
  refine (HSI.out _).mono ?_
  rintro e w2 ⟨T, HT, rfl, k⟩
  replace G := Box.mk (G.out.trans k); clear k
  go_wp2_with fail
  refine (HPN.out _).mono ?_
  rintro e w3 ⟨rfl, k⟩
  replace G := Box.mk (G.out.trans k); clear k
  go_wp2_with fail
  refine (HSN.out _).mono ?_
  rintro e w4 ⟨rfl, k⟩
  replace G := Box.mk (G.out.trans k); clear k
  have hKe : K = keyV := HK.out.eq.trans (by rw [seed_num]; exact seed_key.eq.symm)
  have hK4 : ((K.extract 0 4).toList == [215, 90, 152, 1]) = true := by rw [hKe]; decide +kernel
  have hT4 : ((T.extract 0 4).toList == [229, 86, 67, 0]) = true := by
    have h1 := (sig_parts HT.out).1
    have h2 : T.extract 0 4 = (T.extract 0 32).extract 0 4 := by rw [ByteArray.extract_extract]; rfl
    rw [h2, h1]; decide +kernel
  have hKs : (K.size : Int) = 32 := by have := HK.out.size; omega
  have hTs : (T.size : Int) = 64 := by have := HT.out.size; omega
  have HV := Box.mk (fun v => verify_any K ⟨#[]⟩ T (by decide) v)
  have HVY := Box.mk (HT.out.ver HK.out)
  have HVX := Box.mk (fun v => verify_any K ⟨#[120]⟩ T (by decide) v)
  have HVN := Box.mk (show ¬ VerP K ⟨#[120]⟩ T from by rw [hKe]; exact not_x HT.out)
  have HVE := Box.mk (fun v => verify_any K ⟨#[]⟩ ⟨#[]⟩ (by decide) v)
  clear hKe
  go_wp2_with fail
  refine (HV.out _).mono ?_
  rintro e w5 ⟨b1, rfl, hb1, k⟩
  replace G := Box.mk (G.out.trans k); clear k
  obtain rfl := hb1.2 HVY.out
  clear hb1
  go_wp2_with fail
  refine (HVX.out _).mono ?_
  rintro e w6 ⟨b2, rfl, hb2, k⟩
  replace G := Box.mk (G.out.trans k); clear k
  obtain rfl : b2 = false := by cases b2 with | false => rfl | true => exact (HVN.out (hb2.1 rfl)).elim
  clear hb2
  go_wp2_with fail
  refine (HVE.out _).mono ?_
  rintro e w7 ⟨b3, rfl, hb3, k⟩
  replace G := Box.mk (G.out.trans k); clear k
  obtain rfl : b3 = false := by cases b3 with | false => rfl | true => exact (not_empty (hb3.1 rfl)).elim
  clear hb3
  go_wp2
  go_ret
  exact ⟨rfl, G.out⟩
end Go.Proofs.YtedmkpdohffigaaGreat.Fe
