/- The document's numbers as numbers: each function's answer is one value; Small, Minus, Num, Inverse by it. -/
import Derived.Test.YtpgichfagodkpaaFieldS
import Derived.Test.YtpgichfagodkpaaMix
import Derived.Test.YtpgichfagodkpaaWords
namespace Go.Proofs.Ytpgichfagodkpaa.Fe
set_option linter.unusedVariables false
open Go Go.RowKit

/-- The digits of a number. -/
@[irreducible] def dg (n : Nat) : Nat → Nat := fun j => n / 2 ^ (16 * j) % 65536
theorem dg_eq (n j : Nat) : dg n j = n / 2 ^ (16 * j) % 65536 := by unfold dg; first | done | rfl
theorem dg_dig (n : Nat) : Dig (dg n) := fun j _ => by rw [dg_eq]; exact Nat.mod_lt _ (by omega)
theorem pn_dg (n : Nat) : ∀ k, pn (dg n) k = n % dw k
  | 0 => by simp [pn, dw, Nat.mod_one]
  | k + 1 => by
    rw [pn, pn_dg n k, dw_succ, dg_eq, show (2 : Nat) ^ (16 * k) = dw k from rfl, Nat.mod_mul]
theorem nv_dg {n : Nat} (h : n < dw 16) : nv (dg n) = n := by unfold nv; rw [pn_dg, Nat.mod_eq_of_lt h]
theorem dg_pn {f : Nat → Nat} : ∀ k, (∀ j, j < k → f j < 65536) → ∀ j, j < k → pn f k / dw j % 65536 = f j
  | 0, _, j, hj => by omega
  | k + 1, h, j, hj => by
    rw [pn]
    have hl := pn_lt k (fun j hj => h j (by omega))
    by_cases hjk : j = k
    · subst hjk
      rw [Nat.add_mul_div_left _ _ (dw_pos _), Nat.div_eq_of_lt hl, Nat.zero_add]
      exact Nat.mod_eq_of_lt (h j (by omega))
    · have ih := dg_pn k (fun j hj => h j (by omega)) j (by omega)
      obtain ⟨d, hd⟩ : ∃ d, k = j + (1 + d) := ⟨k - j - 1, by omega⟩
      have e : dw k = dw j * (65536 * dw d) := by
        unfold dw; rw [hd, Nat.mul_add, Nat.pow_add, Nat.mul_add, Nat.pow_add]
      rw [e, Nat.mul_assoc, Nat.add_mul_div_left _ _ (dw_pos _), Nat.mul_assoc, Nat.add_mul_mod_self_left]
      exact ih
theorem ncell_congr {f g : Nat → Nat} (h : ∀ j, j < 16 → f j = g j) : ncell f = ncell g := by
  simp only [ncell, h 0 (by omega), h 1 (by omega), h 2 (by omega), h 3 (by omega), h 4 (by omega), h 5 (by omega), h 6 (by omega), h 7 (by omega), h 8 (by omega), h 9 (by omega), h 10 (by omega), h 11 (by omega), h 12 (by omega), h 13 (by omega), h 14 (by omega), h 15 (by omega)]
theorem ncell_dg {f : Nat → Nat} (h : Dig f) : ncell f = ncell (dg (nv f)) := ncell_congr fun j hj => by
  rw [dg_eq, show (2 : Nat) ^ (16 * j) = dw j from rfl]; exact (dg_pn 16 h j hj).symm
theorem ncell_of {f : Nat → Nat} {n : Nat} (h : Dig f) (hv : nv f = n) : ncell f = ncell (dg n) := by rw [ncell_dg h, hv]
theorem fp_dw : fp < dw 16 := by rw [dw16]; omega
theorem mod_dw (n : Nat) : n % fp < dw 16 := Nat.lt_trans (Nat.mod_lt _ fp_pos) fp_dw

section
variable (w : World)
theorem belowD (a b : Nat) (ha : a < dw 16) (hb : b < dw 16) : Calls Try.prog 79 #[.agg (ncell (dg a)), .agg (ncell (dg b))] w fun e w' => e = .returned (.bool (ltN a b)) ∧ Gr w w' :=
  (below_any _ _ (dg_dig a) (dg_dig b) w).mono fun _ _ ⟨he, hb'⟩ => ⟨by rw [he, nv_dg ha, nv_dg hb], hb'⟩
theorem lessD (a b : Nat) (ha : a < dw 16) (hle : b ≤ a) : Calls Try.prog 63 #[.agg (ncell (dg a)), .agg (ncell (dg b))] w fun e w' => e = .returned (.agg (ncell (dg (a - b)))) ∧ Gr w w' :=
  (less_any _ _ (dg_dig a) (dg_dig b) (by rw [nv_dg ha, nv_dg (by omega)]; exact hle) w).mono fun _ _ ⟨h, he, hd, hv, hb'⟩ => ⟨by rw [he, ncell_of hd (by rw [hv, nv_dg ha, nv_dg (Nat.lt_of_le_of_lt hle ha)])], hb'⟩
theorem pD : Calls Try.prog 64 #[] w fun e w' => e = .returned (.agg (ncell (dg fp))) ∧ Gr w w' :=
  (p_any w).mono fun _ _ ⟨he, hb'⟩ => ⟨by rw [he, ncell_of pF_dig pF_nv], hb'⟩
theorem modD (f : Nat → Nat) (hf : ∀ j, j < 16 → f j < 1125899906842624) : Calls Try.prog 71 #[.agg (ncell f)] w fun e w' => e = .returned (.agg (ncell (dg (nv f % fp)))) ∧ Gr w w' :=
  (mod_any f hf w).mono fun _ _ ⟨h, he, hd, hv, hb'⟩ => ⟨by rw [he, ncell_of hd hv], hb'⟩
theorem plusD (a b : Nat) (ha : a < dw 16) (hb : b < dw 16) : Calls Try.prog 61 #[.agg (ncell (dg a)), .agg (ncell (dg b))] w fun e w' => e = .returned (.agg (ncell (dg ((a + b) % fp)))) ∧ Gr w w' :=
  (plus_any _ _ (dg_dig a) (dg_dig b) w).mono fun _ _ ⟨h, he, hd, hv, hb'⟩ => ⟨by rw [he, ncell_of hd (by rw [hv, nv_dg ha, nv_dg hb])], hb'⟩
theorem smallD (n : Nat) (hn : n < 4294967296) : Calls Try.prog 39 #[.int .i64 n] w fun e w' => e = .returned (.agg (ncell (dg n))) ∧ Gr w w' :=
  (smallN_any n hn w).mono fun _ _ ⟨he, hb'⟩ => ⟨by rw [he, ncell_of (smN_dig n hn) (smN_nv n)], hb'⟩
end

section
variable {W : World} {T : (World → Prop) → List Nat → Act → Prop} {L : List (Oper × Kd)} {F : World → Prop} {N : List Nat} {a : Act} {o : Oper}
theorem gm_loadN (x : Operand) (ho : o.op = .load 48 x) (b : Nat) (f : Nat → Nat) (hb : W.heap[b]? = some (.cells (ncell f) 48 (0, 0))) (hx : a.eval x = .pointer (some ⟨b, 0, none⟩))
    (h : wpG Try.prog W [] T L F N (a.put o.dst (.agg (ncell f)))) : wpG Try.prog W [] T ((o, .flo) :: L) F N a :=
  gm_load x ho b (ncell f) 48 (0, 0) _ hb hx Try.underlying48 rfl (by kernel_rfl) h
end
set_option maxRecDepth 100000 in
set_option maxHeartbeats 2000000 in
theorem minusD (a b : Nat) (ha : a < dw 16) (hb : b ≤ fp) (w : World) :
    Calls Try.prog 38 #[.agg (ncell (dg a)), .agg (ncell (dg b))] w fun e w' => e = .returned (.agg (ncell (dg ((a + (fp - b)) % fp)))) ∧ Gr w w' := by
  have hz := zeroN
  obtain ⟨W0, hW0⟩ : ∃ W, W = ((w.alloc (.cells (ncell (dg a)) 48)).alloc (.cells (ncell (dg b)) 48)).alloc (.cells (ncell f0) 48) := ⟨_, rfl⟩
  have g0 : W0.heap[w.heap.size]? = some (.cells (ncell (dg a)) 48 (0, 0)) := by rw [hW0, heap_alloc_old _ _ (by simp; omega), heap_alloc_old _ _ (by simp)]; exact heap_alloc_new _ _
  have g1 : W0.heap[w.heap.size + 1]? = some (.cells (ncell (dg b)) 48 (0, 0)) := by
    have := heap_alloc_new (w.alloc (.cells (ncell (dg a)) 48)) (.cells (ncell (dg b)) 48)
    rw [World.size_alloc] at this
    rw [hW0, heap_alloc_old _ _ (by simp)]; exact this
  have g2 : W0.heap[w.heap.size + 2]? = some (.cells (ncell f0) 48 (0, 0)) := by
    have := heap_alloc_new ((w.alloc (.cells (ncell (dg a)) 48)).alloc (.cells (ncell (dg b)) 48)) (.cells (ncell f0) 48)
    rw [World.size_alloc, World.size_alloc] at this
    rw [hW0]; exact this
  have b0 : Below w.heap.size w W0 := by rw [hW0]; go_grown
  have G0 := Box.mk g0; have G1 := Box.mk g1; have G2 := Box.mk g2; have B0 := Box.mk b0; have HA := Box.mk ha; have HB := Box.mk hb
  clear g0 g1 g2 b0 ha hb
  go_enter Try.func38, Try.ntmps38
  go_upto_region 1 with (fail)
  rw [← hW0]
  clear hW0 hz
  refine wp_region_mix 5 [.flo, .cha, .flo, .cha, .cha] (by kernel_rfl) (by kernel_rfl) rfl ?_
  simp only [List.take, List.zip, List.zipWith]
  refine gm_loadN (.tmp 2) rfl w.heap.size (dg a) G0.out rfl ?_
  refine gm_call [] (by kernel_rfl) rfl rfl Stb.tt (fun w1 hw1 _ => (pD w1).mono ?_)
  rintro e w2 ⟨rfl, hw2⟩
  refine ⟨_, rfl, hw2, ?_⟩
  refine gm_loadN (.tmp 3) rfl (w.heap.size + 1) (dg b) G1.out rfl ?_
  refine gm_call [.agg (ncell (dg fp)), .agg (ncell (dg b))] (by kernel_rfl) rfl rfl Stb.tt (fun w3 hw3 _ => (lessD w3 fp b fp_dw HB.out).mono ?_)
  rintro e w4 ⟨rfl, hw4⟩
  refine ⟨_, rfl, hw4, ?_⟩
  refine gm_call [.agg (ncell (dg a)), .agg (ncell (dg (fp - b)))] (by kernel_rfl) rfl rfl Stb.tt (fun w5 hw5 _ => (plusD w5 a (fp - b) HA.out (Nat.lt_of_le_of_lt (Nat.sub_le _ _) fp_dw)).mono ?_)
  rintro e w6 ⟨rfl, hw6⟩
  refine ⟨_, rfl, hw6, ?_⟩
  refine gm_nil ?_
  intro w7 hw7 _
  simp only [List.drop]
  have G2 := Box.mk (hw7.block (b := w.heap.size + 2) G2.out)
  go_frame
  go_wp2_with ((with_reducible refine wpList_storeN rfl (.tmp 4) (.tmp 9) rfl (w.heap.size + 2) (dg ((a + (fp - b)) % fp)) f0 G2.out ?_ ?_ ?_); rfl; rfl)
  go_frame
  refine bodyPost_ret (results_cell_row (p := 4) (ty := 48) rfl _ _ (w.heap.size + 2) 48 (ncell _) (0, 0) _ rfl (setRow_heap _ _ _ _ _ _ G2.out) Try.underlying48 rfl (by kernel_rfl)) rfl ⟨rfl, ?_⟩
  exact below_setRow (B0.out.drew.trans (hw7.below.mono B0.out.size)) (by omega) _
end Go.Proofs.Ytpgichfagodkpaa.Fe
