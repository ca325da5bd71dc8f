/- The package limbs: Inv, Root. -/
import Derived.Test.YtafhncpaoolljaaGreatM20
import Derived.Test.YtafhncpaoolljaaGreatM21
import Derived.Test.YtafhncpaoolljaaGreatM24
namespace Go.Proofs.YtafhncpaoolljaaGreat.Fe
set_option maxRecDepth 100000
set_option linter.unusedVariables false
open Go Go.RowKit
section
variable {W : World} {T : (World → Prop) → List Nat → Act → Prop} {L : List (Oper × Kd)} {F : World → Prop} {N : List Nat} {a : Act} {o : Oper}
theorem gm_loadE (x : Operand) (ho : o.op = .load 56 x) (b : Nat) (f : Nat → Nat) (hb : W.heap[b]? = some (.cells (ecell f) 56 (0, 0))) (hx : a.eval x = .pointer (some ⟨b, 0, none⟩))
   (h : wpG Tryz.prog W [] T L F N (a.put o.dst (.agg (ecell f)))) : wpG Tryz.prog W [] T ((o, .flo) :: L) F N a :=
 gm_load x ho b (ecell f) 56 (0, 0) _ hb hx Tryz.underlying56 rfl (by kernel_rfl) h
theorem gm_loadSE {S : List Nat} (x : Operand) (ho : o.op = .load 56 x) (b : Nat) (f : Nat → Nat) (hb : W.heap[b]? = some (.cells (ecell f) 56 (0, 0))) (hbS : b ∉ S) (hx : a.eval x = .pointer (some ⟨b, 0, none⟩))
   (h : wpG Tryz.prog W S T L F N (a.put o.dst (.agg (ecell f)))) : wpG Tryz.prog W S T ((o, .flo) :: L) F N a :=
 gm_loadS x ho b (ecell f) 56 (0, 0) _ hb hbS hx Tryz.underlying56 rfl (by kernel_rfl) h
end
theorem ek_inv : ek 250 * 2 ^ 5 + 11 = fp - 2 := by rw [ek_eq, fp_eq]
theorem ek_root : ek 250 * 2 ^ 2 + 1 + 1 = n5 + 1 := by unfold n5; rw [ek_eq, fp_eq]
theorem ek_two : ek 250 * 2 ^ 3 + 3 = n1 := by unfold n1; rw [ek_eq, fp_eq]
def rawR (A : Nat) : Nat := if tryR A 0 * tryR A 0 % fp = A then tryR A 0 else tryR A 1
theorem rawR_hit {A : Nat} (h : tryR A 0 * tryR A 0 % fp = A) : rawR A = tryR A 0 ∧ (rtN A).2 = true := by
 unfold rawR rtN; rw [if_pos h, if_pos h]; exact ⟨rfl, rfl⟩
theorem rawR_two {A : Nat} (h : ¬ tryR A 0 * tryR A 0 % fp = A) (h1 : tryR A 1 * tryR A 1 % fp = A) : rawR A = tryR A 1 ∧ (rtN A).2 = true := by
 unfold rawR rtN; rw [if_neg h, if_neg h, if_pos h1]; exact ⟨rfl, rfl⟩
theorem rawR_miss {A : Nat} (h : ¬ tryR A 0 * tryR A 0 % fp = A) (h1 : ¬ tryR A 1 * tryR A 1 % fp = A) : rawR A = tryR A 1 ∧ (rtN A).2 = false := by
 unfold rawR rtN; rw [if_neg h, if_neg h, if_neg h1]; exact ⟨rfl, rfl⟩
theorem try0_of {a r : Nat} (h : r % fp = a ^ (n5 + 1) % fp) : r % fp = tryR (a % fp) 0 := by
 rw [h]
 show _ = a % fp * ((a % fp) ^ n5 % fp) % fp
 rw [← Nat.pow_mod, ← Nat.mul_mod, Nat.pow_succ, Nat.mul_comm]
theorem try1_of {a r s t : Nat} (h : r % fp = tryR (a % fp) 0) (ht : t % fp = 2 ^ n1 % fp) (hs : s % fp = r * t % fp) : s % fp = tryR (a % fp) 1 := by
 rw [hs]
 show _ = tryR (a % fp) 0 * (2 ^ n1 % fp) % fp
 rw [← h, ← ht, ← Nat.mul_mod]
theorem sq_mod {r s A : Nat} (hr : r % fp = A) (hs : s % fp = r * r % fp) : s % fp = A * A % fp := by
 rw [hs, Nat.mul_mod, hr]
set_option maxRecDepth 100000 in
set_option maxHeartbeats 2000000 in
theorem inv_any (a : Nat → Nat) (ha : Lim 2 a) (w : World) :
   Calls Tryz.prog 62 #[.agg (ecell a)] w fun e w' => ∃ h, e = .returned (.agg (ecell h)) ∧ Lim 2 h ∧ lv h % fp = lv a ^ (fp - 2) % fp ∧ Below w.heap.size w w' := by
 have hz := zeroE
 obtain ⟨W0, hW0⟩ : ∃ W, W = (w.alloc (.cells (ecell a) 56)).alloc (.cells z5 56) := ⟨_, rfl⟩
 have g0 : W0.heap[w.heap.size]? = some (.cells (ecell a) 56 (0, 0)) := by rw [hW0, heap_alloc_old _ _ (by simp)]; exact heap_alloc_new _ _
 have g1 : W0.heap[w.heap.size + 1]? = some (.cells (ecell f0) 56 (0, 0)) := by
   have := heap_alloc_new (w.alloc (.cells (ecell a) 56)) (.cells z5 56)
   rw [World.size_alloc] at this
   rw [hW0]; exact this
 have b0 : Below w.heap.size w W0 := by rw [hW0]; go_grown
 have GA := Box.mk g0; have GR := Box.mk g1; have B0 := Box.mk b0; have LA := Box.mk ha
 obtain ⟨ba, hba⟩ : ∃ b, b = w.heap.size := ⟨_, rfl⟩
 obtain ⟨br, hbr⟩ : ∃ b, b = w.heap.size + 1 := ⟨_, rfl⟩
 rw [← hba] at GA; rw [← hbr] at GR
 have hge : w.heap.size ≤ ba := by omega
 have hgr : w.heap.size ≤ br := by omega
 have har : ba < br := by omega
 clear g0 g1 b0 ha
 go_enter Tryz.func62, Tryz.ntmps62
 go_upto_region 1 with (fail)
 rw [← hW0, ← hbr, ← hba]
 clear hW0 hz hbr hba
 refine wp_region_seq 7 [.flo, .cha, .flo, .flo, .flo, .new (.cells (ecell f0) 56), .new (.cells (ecell f0) 56)] (by rfl) rfl (by decide) ?_
 simp only [List.take, List.zip, List.zipWith]
 refine gm_loadE (.tmp 1) rfl ba a GA.out rfl ?_
 try go_frame
 refine gm_call [.agg (ecell a)] (by kernel_rfl) rfl rfl Stb.tt (fun w1 hw1 _ => (chain_any a LA.out w1).mono ?_)
 rintro e w2 ⟨xA, yA, rfl, lx, vx, ly, vy, hw2⟩
 refine ⟨_, rfl, hw2, ?_⟩
 try go_frame
 have LXA := Box.mk lx; have VXA := Box.mk vx; have LYA := Box.mk ly; have VYA := Box.mk vy
 clear lx vx ly vy
 refine gm_move (.tmp 7) (.inl rfl) _ rfl ?_
 try go_frame
 refine gm_extract (vs := #[.agg (ecell xA), .agg (ecell yA)]) (.tmp 5) 0 rfl rfl (.agg (ecell xA)) rfl ?_
 try go_frame
 refine gm_extract (vs := #[.agg (ecell xA), .agg (ecell yA)]) (.tmp 5) 1 rfl rfl (.agg (ecell yA)) rfl ?_
 try go_frame
 refine gm_alloc rfl (.cells (ecell f0) 56) (fun _ => by kernel_rfl) (fun bx hbx _ => ?_)
 try go_frame
 refine gm_alloc rfl (.cells (ecell f0) 56) (fun _ => by kernel_rfl) (fun by_ hby_ hne => ?_)
 try go_frame
 have hne12 : by_ ≠ bx := fun h => hne (h ▸ List.mem_cons_self)
 refine gm_nil ?_
 intro v7 hv7 hG7
 simp only [List.drop]
 try go_frame
 have hf1 := hG7.1.2; have hf2 := hG7.2
 have HN1 := Box.mk hf1; have HN2 := Box.mk (show (v7.setRow bx (ecell xA)).heap[by_]? = some (.cells (ecell f0) 56 (0, 0)) from by rw [setRow_other _ _ _ _ hne12]; exact hf2)
 obtain ⟨W1, hWn⟩ : ∃ W, W = (v7.setRow bx (ecell xA)).setRow by_ (ecell yA) := ⟨_, rfl⟩
 go_upto_region 2 with (first
   | ((with_reducible refine wpList_storeE rfl (.tmp 3) (.tmp 8) rfl bx xA f0 HN1.out ?_ ?_ ?_); rfl; rfl)
   | ((with_reducible refine wpList_storeE rfl (.tmp 4) (.tmp 9) rfl by_ yA f0 HN2.out ?_ ?_ ?_); rfl; rfl))
 try go_frame
 rw [← hWn]
 have hgn : Gr W0 W1 := by rw [hWn]; exact (hv7.setRow hbx _).setRow hby_ _
 have l_ba_bx : ba < bx := Nat.lt_of_lt_of_le (Gr.blt GA.out) hbx
 have l_ba_by_ : ba < by_ := Nat.lt_of_lt_of_le (Gr.blt GA.out) hby_
 have l_br_bx : br < bx := Nat.lt_of_lt_of_le (Gr.blt GR.out) hbx
 have l_br_by_ : br < by_ := Nat.lt_of_lt_of_le (Gr.blt GR.out) hby_
 replace GA := Box.mk (hgn.block GA.out)
 replace GR := Box.mk (hgn.block GR.out)
 have GXA := Box.mk (show W1.heap[bx]? = some (.cells (ecell xA) 56 (0, 0)) from by rw [hWn, setRow_other _ _ _ _ (Ne.symm hne12)]; exact setRow_heap _ _ _ _ _ _ HN1.out)
 have GYA := Box.mk (show W1.heap[by_]? = some (.cells (ecell yA) 56 (0, 0)) from by rw [hWn]; exact setRow_heap _ _ _ _ _ _ HN2.out)
 replace B0 := Box.mk (B0.out.trans (hgn.below.mono B0.out.size))
 clear hWn hgn HN1 HN2 hG7 hv7 hf1 hf2 hne hbx hby_
 refine wp_region_mix 4 [.flo, .cha, .flo, .cha] (by kernel_rfl) (by kernel_rfl) rfl ?_
 simp only [List.take, List.zip, List.zipWith]
 refine gm_loadE (.tmp 3) rfl bx xA GXA.out rfl ?_
 try go_frame
 refine gm_call [.agg (ecell xA), .int .i64 5] (by kernel_rfl) rfl rfl Stb.tt (fun w1 hw1 _ => (power_any xA LXA.out 5 (by omega) w1).mono ?_)
 rintro e w2 ⟨g1, rfl, lg1, vg1, hw2⟩
 refine ⟨_, rfl, hw2, ?_⟩
 try go_frame
 have Lg1 := Box.mk lg1; have Vg1 := Box.mk vg1
 clear lg1 vg1
 refine gm_loadE (.tmp 4) rfl by_ yA GYA.out rfl ?_
 try go_frame
 refine gm_call [.agg (ecell g1), .agg (ecell yA)] (by kernel_rfl) rfl rfl Stb.tt (fun w1 hw1 _ => (mul_any g1 yA Lg1.out LYA.out w1).mono ?_)
 rintro e w2 ⟨g2, rfl, lg2, vg2, hw2⟩
 refine ⟨_, rfl, hw2, ?_⟩
 try go_frame
 have Lg2 := Box.mk lg2; have Vg2 := Box.mk vg2
 clear lg2 vg2
 refine gm_nil ?_
 intro w7 hw7 _
 simp only [List.drop]
 try go_frame
 replace GR := Box.mk (hw7.block GR.out); replace B0 := Box.mk (B0.out.drew.trans (hw7.below.mono B0.out.size))
 have hv := pw_mul (pw_pow VXA.out Vg1.out) VYA.out Vg2.out
 rw [ek_inv] at hv
 have HV := Box.mk hv
 clear hv hw7
 go_wp2_with ((with_reducible refine wpList_storeE rfl (.tmp 2) (.tmp 13) rfl br g2 f0 GR.out ?_ ?_ ?_); rfl; rfl)
 refine bodyPost_ret (results_cell_row (p := 2) (ty := 56) rfl _ _ br 56 (ecell g2) (0, 0) _ rfl (setRow_heap _ _ _ _ _ _ GR.out) Tryz.underlying56 rfl (by kernel_rfl)) rfl ⟨g2, rfl, Lg2.out, HV.out, ?_⟩
 exact below_setRow B0.out hgr _
set_option maxRecDepth 100000 in
set_option maxHeartbeats 16000000 in
theorem root_any (a : Nat → Nat) (ha : Lim 2 a) (w : World) :
   Calls Tryz.prog 63 #[.agg (ecell a)] w fun e w' => ∃ h, e = .returned (.tuple #[.agg (ecell h), .bool (rtN (lv a % fp)).2]) ∧ Lim 2 h ∧ lv h % fp = rawR (lv a % fp) ∧ Below w.heap.size w w' := by
 have hz := zeroE
 obtain ⟨W0, hW0⟩ : ∃ W, W = (w.alloc (.cells (ecell a) 56)).alloc (.cells z5 56) := ⟨_, rfl⟩
 have g0 : W0.heap[w.heap.size]? = some (.cells (ecell a) 56 (0, 0)) := by rw [hW0, heap_alloc_old _ _ (by simp)]; exact heap_alloc_new _ _
 have g1 : W0.heap[w.heap.size + 1]? = some (.cells (ecell f0) 56 (0, 0)) := by
   have := heap_alloc_new (w.alloc (.cells (ecell a) 56)) (.cells z5 56)
   rw [World.size_alloc] at this
   rw [hW0]; exact this
 have b0 : Below w.heap.size w W0 := by rw [hW0]; go_grown
 have GA := Box.mk g0; have GR := Box.mk g1; have B0 := Box.mk b0; have LA := Box.mk ha
 obtain ⟨ba, hba⟩ : ∃ b, b = w.heap.size := ⟨_, rfl⟩
 obtain ⟨br, hbr⟩ : ∃ b, b = w.heap.size + 1 := ⟨_, rfl⟩
 rw [← hba] at GA; rw [← hbr] at GR
 have hge : w.heap.size ≤ ba := by omega
 have hgr : w.heap.size ≤ br := by omega
 have har : ba < br := by omega
 clear g0 g1 b0 ha
 go_enter Tryz.func63, Tryz.ntmps63
 go_upto_region 1 with (fail)
 rw [← hW0, ← hbr, ← hba]
 clear hW0 hz hbr hba
 refine wp_region_seq 7 [.flo, .cha, .flo, .flo, .flo, .new (.cells (ecell f0) 56), .new (.cells (ecell f0) 56)] (by rfl) rfl (by decide) ?_
 simp only [List.take, List.zip, List.zipWith]
 refine gm_loadE (.tmp 1) rfl ba a GA.out rfl ?_
 try go_frame
 refine gm_call [.agg (ecell a)] (by kernel_rfl) rfl rfl Stb.tt (fun w1 hw1 _ => (chain_any a LA.out w1).mono ?_)
 rintro e w2 ⟨xA, yA, rfl, lx, vx, ly, vy, hw2⟩
 refine ⟨_, rfl, hw2, ?_⟩
 try go_frame
 have LXA := Box.mk lx; have VXA := Box.mk vx; have LYA := Box.mk ly; have VYA := Box.mk vy
 clear lx vx ly vy
 refine gm_move (.tmp 11) (.inl rfl) _ rfl ?_
 try go_frame
 refine gm_extract (vs := #[.agg (ecell xA), .agg (ecell yA)]) (.tmp 9) 0 rfl rfl (.agg (ecell xA)) rfl ?_
 try go_frame
 refine gm_extract (vs := #[.agg (ecell xA), .agg (ecell yA)]) (.tmp 9) 1 rfl rfl (.agg (ecell yA)) rfl ?_
 try go_frame
 refine gm_alloc rfl (.cells (ecell f0) 56) (fun _ => by kernel_rfl) (fun bx hbx _ => ?_)
 try go_frame
 refine gm_alloc rfl (.cells (ecell f0) 56) (fun _ => by kernel_rfl) (fun by_ hby_ hne => ?_)
 try go_frame
 have hne12 : by_ ≠ bx := fun h => hne (h ▸ List.mem_cons_self)
 refine gm_nil ?_
 intro v7 hv7 hG7
 simp only [List.drop]
 try go_frame
 have hf1 := hG7.1.2; have hf2 := hG7.2
 have HN1 := Box.mk hf1; have HN2 := Box.mk (show (v7.setRow bx (ecell xA)).heap[by_]? = some (.cells (ecell f0) 56 (0, 0)) from by rw [setRow_other _ _ _ _ hne12]; exact hf2)
 obtain ⟨W1, hWn⟩ : ∃ W, W = (v7.setRow bx (ecell xA)).setRow by_ (ecell yA) := ⟨_, rfl⟩
 go_upto_region 2 with (first
   | ((with_reducible refine wpList_storeE rfl (.tmp 4) (.tmp 12) rfl bx xA f0 HN1.out ?_ ?_ ?_); rfl; rfl)
   | ((with_reducible refine wpList_storeE rfl (.tmp 5) (.tmp 13) rfl by_ yA f0 HN2.out ?_ ?_ ?_); rfl; rfl))
 try go_frame
 rw [← hWn]
 have hgn : Gr W0 W1 := by rw [hWn]; exact (hv7.setRow hbx _).setRow hby_ _
 have l_ba_bx : ba < bx := Nat.lt_of_lt_of_le (Gr.blt GA.out) hbx
 have l_ba_by_ : ba < by_ := Nat.lt_of_lt_of_le (Gr.blt GA.out) hby_
 have l_br_bx : br < bx := Nat.lt_of_lt_of_le (Gr.blt GR.out) hbx
 have l_br_by_ : br < by_ := Nat.lt_of_lt_of_le (Gr.blt GR.out) hby_
 replace GA := Box.mk (hgn.block GA.out)
 replace GR := Box.mk (hgn.block GR.out)
 have GXA := Box.mk (show W1.heap[bx]? = some (.cells (ecell xA) 56 (0, 0)) from by rw [hWn, setRow_other _ _ _ _ (Ne.symm hne12)]; exact setRow_heap _ _ _ _ _ _ HN1.out)
 have GYA := Box.mk (show W1.heap[by_]? = some (.cells (ecell yA) 56 (0, 0)) from by rw [hWn]; exact setRow_heap _ _ _ _ _ _ HN2.out)
 replace B0 := Box.mk (B0.out.trans (hgn.below.mono B0.out.size))
 clear hWn hgn HN1 HN2 hG7 hv7 hf1 hf2 hne hbx hby_
 have GA0 := GA
 have GR0 := GR
 have GXA0 := GXA
 refine wp_region_mix 7 [.flo, .cha, .flo, .cha, .flo, .cha, .new (.cells (ecell f0) 56)] (by kernel_rfl) (by kernel_rfl) rfl ?_
 simp only [List.take, List.zip, List.zipWith]
 refine gm_loadE (.tmp 4) rfl bx xA GXA.out rfl ?_
 try go_frame
 refine gm_call [.agg (ecell xA), .int .i64 2] (by kernel_rfl) rfl rfl Stb.tt (fun w1 hw1 _ => (power_any xA LXA.out 2 (by omega) w1).mono ?_)
 rintro e w2 ⟨g1, rfl, lg1, vg1, hw2⟩
 refine ⟨_, rfl, hw2, ?_⟩
 try go_frame
 have Lg1 := Box.mk lg1; have Vg1 := Box.mk vg1
 clear lg1 vg1
 refine gm_loadE (.tmp 1) rfl ba a GA.out rfl ?_
 try go_frame
 refine gm_call [.agg (ecell g1), .agg (ecell a)] (by kernel_rfl) rfl rfl Stb.tt (fun w1 hw1 _ => (mul_any g1 a Lg1.out LA.out w1).mono ?_)
 rintro e w2 ⟨g2, rfl, lg2, vg2, hw2⟩
 refine ⟨_, rfl, hw2, ?_⟩
 try go_frame
 have Lg2 := Box.mk lg2; have Vg2 := Box.mk vg2
 clear lg2 vg2
 refine gm_loadE (.tmp 1) rfl ba a GA.out rfl ?_
 try go_frame
 refine gm_call [.agg (ecell g2), .agg (ecell a)] (by kernel_rfl) rfl rfl Stb.tt (fun w1 hw1 _ => (mul_any g2 a Lg2.out LA.out w1).mono ?_)
 rintro e w2 ⟨g3, rfl, lg3, vg3, hw2⟩
 refine ⟨_, rfl, hw2, ?_⟩
 try go_frame
 have Lg3 := Box.mk lg3; have Vg3 := Box.mk vg3
 clear lg3 vg3
 refine gm_alloc rfl (.cells (ecell f0) 56) (fun _ => by kernel_rfl) (fun bt hbt _ => ?_)
 try go_frame
 refine gm_nil ?_
 intro w7 hw7 hF7
 simp only [List.drop]
 try go_frame
 have hv := pw_mul (pw_mul (pw_pow VXA.out Vg1.out) (show lv a % fp = lv a ^ 1 % fp by rw [Nat.pow_one]) Vg2.out) (show lv a % fp = lv a ^ 1 % fp by rw [Nat.pow_one]) Vg3.out
 rw [ek_root] at hv
 have HV := Box.mk (try0_of hv)
 clear hv
 have HN := Box.mk hF7.2
 obtain ⟨W2, hWn⟩ : ∃ W, W = w7.setRow bt (ecell g3) := ⟨_, rfl⟩
 go_upto_region 3 with ((with_reducible refine wpList_storeE rfl (.tmp 6) (.tmp 19) rfl bt g3 f0 HN.out ?_ ?_ ?_); rfl; rfl)
 try go_frame
 rw [← hWn]
 have hgn : Gr W1.drew W2 := by rw [hWn]; exact hw7.setRow hbt _
 replace GA := Box.mk (hgn.block GA.out)
 replace GR := Box.mk (hgn.block GR.out)
 replace GXA := Box.mk (hgn.block GXA.out)
 have GT := Box.mk (show W2.heap[bt]? = some (.cells (ecell g3) 56 (0, 0)) from by rw [hWn]; exact setRow_heap _ _ _ _ _ _ HN.out)
 replace B0 := Box.mk (B0.out.drew.trans (hgn.below.mono B0.out.size))
 have l_ba_bt : ba < bt := Nat.lt_of_lt_of_le (Gr.blt GA0.out) hbt
 have l_br_bt : br < bt := Nat.lt_of_lt_of_le (Gr.blt GR0.out) hbt
 have l_bx_bt : bx < bt := Nat.lt_of_lt_of_le (Gr.blt GXA0.out) hbt
 clear hWn hgn HN hF7 hw7 hbt Vg1 Vg2 Vg3 VXA GA0 GR0 GXA0
 refine wp_region_mix 6 [.flo, .flo, .cha, .cha, .flo, .cha] (by kernel_rfl) (by kernel_rfl) rfl ?_
 simp only [List.take, List.zip, List.zipWith]
 refine gm_loadE (.tmp 6) rfl bt g3 GT.out rfl ?_
 try go_frame
 refine gm_loadE (.tmp 6) rfl bt g3 GT.out rfl ?_
 try go_frame
 refine gm_call [.agg (ecell g3), .agg (ecell g3)] (by kernel_rfl) rfl rfl Stb.tt (fun w1 hw1 _ => (mul_any g3 g3 Lg3.out Lg3.out w1).mono ?_)
 rintro e w2 ⟨g4, rfl, lg4, vg4, hw2⟩
 refine ⟨_, rfl, hw2, ?_⟩
 try go_frame
 have Lg4 := Box.mk lg4; have Vg4 := Box.mk vg4
 clear lg4 vg4
 refine gm_call [.agg (ecell g4)] (by kernel_rfl) rfl rfl Stb.tt (fun w1 hw1 _ => (bytes_any g4 Lg4.out.zero w1).mono ?_)
 rintro e w2 ⟨rfl, hw2⟩
 refine ⟨_, rfl, hw2, ?_⟩
 try go_frame
 refine gm_loadE (.tmp 1) rfl ba a GA.out rfl ?_
 try go_frame
 refine gm_call [.agg (ecell a)] (by kernel_rfl) rfl rfl Stb.tt (fun w1 hw1 _ => (bytes_any a LA.out.zero w1).mono ?_)
 rintro e w2 ⟨rfl, hw2⟩
 refine ⟨_, rfl, hw2, ?_⟩
 try go_frame
 refine gm_nil ?_
 intro w7 hw7 _
 simp only [List.drop]
 try go_frame
 rw [sq_mod HV.out Vg4.out]
 replace GA := Box.mk (hw7.block GA.out); replace GR := Box.mk (hw7.block GR.out); replace GT := Box.mk (hw7.block GT.out); replace B0 := Box.mk (B0.out.drew.trans (hw7.below.mono B0.out.size))
 clear hw7
 obtain ⟨A, hA⟩ : ∃ A, A = lv a % fp := ⟨_, rfl⟩
 rw [← hA] at HV ⊢
 have HA := Box.mk hA
 clear hA
 by_cases hhit : tryR A 0 * tryR A 0 % fp = A
 ·
   have heq := eqS_yes A
   rw [hhit]
   obtain ⟨e1, e2⟩ := rawR_hit hhit
   have E1 := Box.mk e1; have E2 := Box.mk e2
   clear hhit e1 e2
   go_wp2_with (first
     | ((with_reducible refine wpList_loadE rfl (.tmp 6) rfl bt g3 GT.out ?_ ?_); rfl)
     | ((with_reducible refine wpList_storeE rfl (.tmp 2) (.tmp 27) rfl br g3 f0 GR.out ?_ ?_ ?_); rfl; rfl))
   refine bodyPost_ret (results_row_tmp (p := 2) (q := 3) (ty := 56) rfl _ _ br 56 (ecell g3) (.bool true) _ rfl (setRow_heap _ _ _ _ _ _ GR.out) rfl Tryz.underlying56 rfl (by kernel_rfl)) rfl ⟨g3, by rw [← HA.out, E2.out], Lg3.out, by rw [HV.out, ← HA.out, E1.out], ?_⟩
   exact below_setRow B0.out hgr _
 ·
   have heq := eqS_no (mod_dw (tryR A 0 * tryR A 0)) (HA.out ▸ mod_dw _) hhit
   have HHIT := Box.mk hhit
   clear hhit
   go_upto_region 5 with (fail)
   clear heq
   refine wp_region_seq 7 [.cha, .cha, .flo, .flo, .flo, .new (.cells (ecell f0) 56), .new (.cells (ecell f0) 56)] (by rfl) rfl (by decide) ?_
   simp only [List.take, List.zip, List.zipWith]
   refine gm_call [.int .u64 2] (by kernel_rfl) rfl rfl Stb.tt (fun w1 hw1 _ => (small_any 2 (by omega) w1).mono ?_)
   rintro e w2 ⟨rfl, hw2⟩
   refine ⟨_, rfl, hw2, ?_⟩
   try go_frame
   refine gm_call [.agg (ecell (smF 2))] (by kernel_rfl) rfl rfl Stb.tt (fun w1 hw1 _ => (chain_any (smF 2) (smF_lim 2 (by omega)).two w1).mono ?_)
   rintro e w2 ⟨xS, yS, rfl, lx, vx, ly, vy, hw2⟩
   refine ⟨_, rfl, hw2, ?_⟩
   try go_frame
   have LXS := Box.mk lx; have VXS := Box.mk vx; have LYS := Box.mk ly; have VYS := Box.mk vy
   clear lx vx ly vy
   refine gm_move (.tmp 30) (.inl rfl) _ rfl ?_
   try go_frame
   refine gm_extract (vs := #[.agg (ecell xS), .agg (ecell yS)]) (.tmp 28) 0 rfl rfl (.agg (ecell xS)) rfl ?_
   try go_frame
   refine gm_extract (vs := #[.agg (ecell xS), .agg (ecell yS)]) (.tmp 28) 1 rfl rfl (.agg (ecell yS)) rfl ?_
   try go_frame
   refine gm_alloc rfl (.cells (ecell f0) 56) (fun _ => by kernel_rfl) (fun bs hbs _ => ?_)
   try go_frame
   refine gm_alloc rfl (.cells (ecell f0) 56) (fun _ => by kernel_rfl) (fun bq hbq hne => ?_)
   try go_frame
   have hne12 : bq ≠ bs := fun h => hne (h ▸ List.mem_cons_self)
   refine gm_nil ?_
   intro v7 hv7 hG7
   simp only [List.drop]
   try go_frame
   have hf1 := hG7.1.2; have hf2 := hG7.2
   have HN1 := Box.mk hf1; have HN2 := Box.mk (show (v7.setRow bs (ecell xS)).heap[bq]? = some (.cells (ecell f0) 56 (0, 0)) from by rw [setRow_other _ _ _ _ hne12]; exact hf2)
   obtain ⟨W3, hWn⟩ : ∃ W, W = (v7.setRow bs (ecell xS)).setRow bq (ecell yS) := ⟨_, rfl⟩
   go_upto_region 6 with (first
     | ((with_reducible refine wpList_storeE rfl (.tmp 7) (.tmp 31) rfl bs xS f0 HN1.out ?_ ?_ ?_); rfl; rfl)
     | ((with_reducible refine wpList_storeE rfl (.tmp 8) (.tmp 32) rfl bq yS f0 HN2.out ?_ ?_ ?_); rfl; rfl))
   try go_frame
   rw [← hWn]
   have hgn : Gr w7 W3 := by rw [hWn]; exact (hv7.setRow hbs _).setRow hbq _
   have l_ba_bs : ba < bs := Nat.lt_of_lt_of_le (Gr.blt GA.out) hbs
   have l_ba_bq : ba < bq := Nat.lt_of_lt_of_le (Gr.blt GA.out) hbq
   have l_br_bs : br < bs := Nat.lt_of_lt_of_le (Gr.blt GR.out) hbs
   have l_br_bq : br < bq := Nat.lt_of_lt_of_le (Gr.blt GR.out) hbq
   have l_bt_bs : bt < bs := Nat.lt_of_lt_of_le (Gr.blt GT.out) hbs
   have l_bt_bq : bt < bq := Nat.lt_of_lt_of_le (Gr.blt GT.out) hbq
   replace GA := Box.mk (hgn.block GA.out)
   replace GR := Box.mk (hgn.block GR.out)
   replace GT := Box.mk (hgn.block GT.out)
   have GXS := Box.mk (show W3.heap[bs]? = some (.cells (ecell xS) 56 (0, 0)) from by rw [hWn, setRow_other _ _ _ _ (Ne.symm hne12)]; exact setRow_heap _ _ _ _ _ _ HN1.out)
   have GYS := Box.mk (show W3.heap[bq]? = some (.cells (ecell yS) 56 (0, 0)) from by rw [hWn]; exact setRow_heap _ _ _ _ _ _ HN2.out)
   replace B0 := Box.mk (B0.out.trans (hgn.below.mono B0.out.size))
   clear hWn hgn HN1 HN2 hG7 hv7 hf1 hf2 hne hbs hbq
   refine wp_region_mix 6 [.flo, .flo, .cha, .cha, .cha, .cha] (by kernel_rfl) (by kernel_rfl) rfl ?_
   simp only [List.take, List.zip, List.zipWith]
   refine gm_loadE (.tmp 6) rfl bt g3 GT.out rfl ?_
   try go_frame
   refine gm_loadE (.tmp 7) rfl bs xS GXS.out rfl ?_
   try go_frame
   refine gm_call [.agg (ecell xS), .int .i64 3] (by kernel_rfl) rfl rfl Stb.tt (fun w1 hw1 _ => (power_any xS LXS.out 3 (by omega) w1).mono ?_)
   rintro e w2 ⟨g5, rfl, lg5, vg5, hw2⟩
   refine ⟨_, rfl, hw2, ?_⟩
   try go_frame
   have Lg5 := Box.mk lg5; have Vg5 := Box.mk vg5
   clear lg5 vg5
   refine gm_call [.int .u64 8] (by kernel_rfl) rfl rfl Stb.tt (fun w1 hw1 _ => (small_any 8 (by omega) w1).mono ?_)
   rintro e w2 ⟨rfl, hw2⟩
   refine ⟨_, rfl, hw2, ?_⟩
   try go_frame
   refine gm_call [.agg (ecell g5), .agg (ecell (smF 8))] (by kernel_rfl) rfl rfl Stb.tt (fun w1 hw1 _ => (mul_any g5 (smF 8) Lg5.out (smF_lim 8 (by omega)).two w1).mono ?_)
   rintro e w2 ⟨g6, rfl, lg6, vg6, hw2⟩
   refine ⟨_, rfl, hw2, ?_⟩
   try go_frame
   have Lg6 := Box.mk lg6; have Vg6 := Box.mk vg6
   clear lg6 vg6
   refine gm_call [.agg (ecell g3), .agg (ecell g6)] (by kernel_rfl) rfl rfl Stb.tt (fun w1 hw1 _ => (mul_any g3 g6 Lg3.out Lg6.out w1).mono ?_)
   rintro e w2 ⟨g7, rfl, lg7, vg7, hw2⟩
   refine ⟨_, rfl, hw2, ?_⟩
   try go_frame
   have Lg7 := Box.mk lg7; have Vg7 := Box.mk vg7
   clear lg7 vg7
   refine gm_nil ?_
   intro w8 hw8 _
   simp only [List.drop]
   try go_frame
   have hv := pw_mul (e := ek 250 * 2 ^ 3) (f := 3) (A := 2) (pw_pow (A := 2) (by have := VXS.out; rwa [smF_lv] at this) Vg5.out) (by rw [smF_lv]) Vg6.out
   rw [ek_two] at hv
   have HV1 := Box.mk (try1_of (by rw [← HA.out]; exact HV.out) hv Vg7.out)
   rw [← HA.out] at HV1
   clear hv
   obtain ⟨W4, hWn⟩ : ∃ W, W = w8.setRow bt (ecell g7) := ⟨_, rfl⟩
   replace GA := Box.mk (hw8.block GA.out); replace GR := Box.mk (hw8.block GR.out); replace GT := Box.mk (hw8.block GT.out); replace B0 := Box.mk (B0.out.drew.trans (hw8.below.mono B0.out.size))
   go_upto_region 7 with ((with_reducible refine wpList_storeE rfl (.tmp 6) (.tmp 38) rfl bt g7 g3 GT.out ?_ ?_ ?_); rfl; rfl)
   try go_frame
   rw [← hWn]
   replace GA := Box.mk (show W4.heap[ba]? = some (.cells (ecell a) 56 (0, 0)) from by rw [hWn, setRow_other _ _ _ _ (by omega)]; exact GA.out)
   replace GR := Box.mk (show W4.heap[br]? = some (.cells (ecell f0) 56 (0, 0)) from by rw [hWn, setRow_other _ _ _ _ (by omega)]; exact GR.out)
   replace GT := Box.mk (show W4.heap[bt]? = some (.cells (ecell g7) 56 (0, 0)) from by rw [hWn]; exact setRow_heap _ _ _ _ _ _ GT.out)
   replace B0 := Box.mk (show Below w.heap.size w W4 from by rw [hWn]; exact below_setRow B0.out (by omega) _)
   clear hWn hw8
   by_cases hhit : tryR A 1 * tryR A 1 % fp = A
   ·
     have heq := eqS_yes A
     obtain ⟨e1, e2⟩ := rawR_two HHIT.out hhit
     have E1 := Box.mk e1; have E2 := Box.mk e2; have HH := Box.mk hhit; have HEQ := Box.mk heq
     clear hhit e1 e2 heq
     refine wp_region_mixS [br] (fun x => True ∧ x.heap[br]? = some (.cells (ecell f0) 56 (0, 0))) (Stb.row _ _) ⟨trivial, GR.out⟩ (fun k hk => by rw [List.mem_singleton.1 hk]; exact Gr.blt GR.out) 9 [.flo, .flo, .flo, .cha, .cha, .flo, .cha, .flo, .cha] (by kernel_rfl) (by kernel_rfl) rfl ?_
     simp only [List.take, List.zip, List.zipWith]
     have nb : ∀ c, c ≠ br → c ∉ [br] := fun c hc h => hc (List.mem_singleton.1 h)
     refine gm_loadSE (.tmp 6) rfl bt g7 GT.out (nb bt (by omega)) rfl ?_
     try go_frame
     refine gm_loadSE (.tmp 6) rfl bt g7 GT.out (nb bt (by omega)) rfl ?_
     try go_frame
     refine gm_loadSE (.tmp 6) rfl bt g7 GT.out (nb bt (by omega)) rfl ?_
     try go_frame
     refine gm_call [.agg (ecell g7), .agg (ecell g7)] (by kernel_rfl) rfl rfl (Stb.row _ _) (fun w1 hw1 _ => (mul_any g7 g7 Lg7.out Lg7.out w1).mono ?_)
     rintro e w2 ⟨g8, rfl, lg8, vg8, hw2⟩
     refine ⟨_, rfl, hw2, ?_⟩
     try go_frame
     have Lg8 := Box.mk lg8; have Vg8 := Box.mk vg8
     clear lg8 vg8
     refine gm_call [.agg (ecell g8)] (by kernel_rfl) rfl rfl (Stb.row _ _) (fun w1 hw1 _ => (bytes_any g8 Lg8.out.zero w1).mono ?_)
     rintro e w2 ⟨rfl, hw2⟩
     refine ⟨_, rfl, hw2, ?_⟩
     try go_frame
     refine gm_loadSE (.tmp 1) rfl ba a GA.out (nb ba (by omega)) rfl ?_
     try go_frame
     refine gm_call [.agg (ecell a)] (by kernel_rfl) rfl rfl (Stb.row _ _) (fun w1 hw1 _ => (bytes_any a LA.out.zero w1).mono ?_)
     rintro e w2 ⟨rfl, hw2⟩
     refine ⟨_, rfl, hw2, ?_⟩
     try go_frame
     rw [sq_mod HV1.out Vg8.out, ← HA.out, HH.out]
     have heq := HEQ.out
     refine gm_flo (.bool true) (fun w hw => by go_simp) ?_
     try go_frame
     refine gm_store (.tmp 2) (.tmp 39) rfl br (ecell f0) (ecell g7) 56 rfl rfl (List.mem_singleton.2 rfl) rfl (by kernel_rfl) rfl (ecell_one g7) (fun _ => True) (fun _ h => h) Stb.tt (fun _ _ => trivial) ?_
     try go_frame
     refine gm_nil ?_
     intro w9 hw9 hF9
     clear heq
     have HR := Box.mk hF9.2
     replace B0 := Box.mk (show Below w.heap.size w w9 from ⟨hw9.os.trans B0.out.os, hw9.tape.trans B0.out.tape, hw9.output.trans B0.out.output, Nat.le_trans B0.out.size hw9.size, fun k hk => (hw9.block k (Nat.lt_of_lt_of_le hk B0.out.size) (nb k (by omega))).trans (B0.out.block k hk)⟩)
     clear hF9 hw9
     simp only [List.drop]
     try go_frame
     go_wp2_with fail
     refine bodyPost_ret (results_row_tmp (p := 2) (q := 3) (ty := 56) rfl _ _ br 56 (ecell g7) (.bool true) _ rfl HR.out rfl Tryz.underlying56 rfl (by kernel_rfl)) rfl ⟨g7, by rw [← HA.out, E2.out], Lg7.out, by rw [HV1.out, ← HA.out, E1.out], B0.out⟩
   ·
     have heq := eqS_no (mod_dw (tryR A 1 * tryR A 1)) (HA.out ▸ mod_dw _) hhit
     obtain ⟨e1, e2⟩ := rawR_miss HHIT.out hhit
     have E1 := Box.mk e1; have E2 := Box.mk e2; have HH := Box.mk hhit; have HEQ := Box.mk heq
     clear hhit e1 e2 heq
     refine wp_region_mixS [br] (fun x => True ∧ x.heap[br]? = some (.cells (ecell f0) 56 (0, 0))) (Stb.row _ _) ⟨trivial, GR.out⟩ (fun k hk => by rw [List.mem_singleton.1 hk]; exact Gr.blt GR.out) 9 [.flo, .flo, .flo, .cha, .cha, .flo, .cha, .flo, .cha] (by kernel_rfl) (by kernel_rfl) rfl ?_
     simp only [List.take, List.zip, List.zipWith]
     have nb : ∀ c, c ≠ br → c ∉ [br] := fun c hc h => hc (List.mem_singleton.1 h)
     refine gm_loadSE (.tmp 6) rfl bt g7 GT.out (nb bt (by omega)) rfl ?_
     try go_frame
     refine gm_loadSE (.tmp 6) rfl bt g7 GT.out (nb bt (by omega)) rfl ?_
     try go_frame
     refine gm_loadSE (.tmp 6) rfl bt g7 GT.out (nb bt (by omega)) rfl ?_
     try go_frame
     refine gm_call [.agg (ecell g7), .agg (ecell g7)] (by kernel_rfl) rfl rfl (Stb.row _ _) (fun w1 hw1 _ => (mul_any g7 g7 Lg7.out Lg7.out w1).mono ?_)
     rintro e w2 ⟨g8, rfl, lg8, vg8, hw2⟩
     refine ⟨_, rfl, hw2, ?_⟩
     try go_frame
     have Lg8 := Box.mk lg8; have Vg8 := Box.mk vg8
     clear lg8 vg8
     refine gm_call [.agg (ecell g8)] (by kernel_rfl) rfl rfl (Stb.row _ _) (fun w1 hw1 _ => (bytes_any g8 Lg8.out.zero w1).mono ?_)
     rintro e w2 ⟨rfl, hw2⟩
     refine ⟨_, rfl, hw2, ?_⟩
     try go_frame
     refine gm_loadSE (.tmp 1) rfl ba a GA.out (nb ba (by omega)) rfl ?_
     try go_frame
     refine gm_call [.agg (ecell a)] (by kernel_rfl) rfl rfl (Stb.row _ _) (fun w1 hw1 _ => (bytes_any a LA.out.zero w1).mono ?_)
     rintro e w2 ⟨rfl, hw2⟩
     refine ⟨_, rfl, hw2, ?_⟩
     try go_frame
     rw [sq_mod HV1.out Vg8.out, ← HA.out]
     have heq := HEQ.out
     refine gm_flo (.bool false) (fun w hw => by go_simp) ?_
     try go_frame
     refine gm_store (.tmp 2) (.tmp 39) rfl br (ecell f0) (ecell g7) 56 rfl rfl (List.mem_singleton.2 rfl) rfl (by kernel_rfl) rfl (ecell_one g7) (fun _ => True) (fun _ h => h) Stb.tt (fun _ _ => trivial) ?_
     try go_frame
     refine gm_nil ?_
     intro w9 hw9 hF9
     clear heq
     have HR := Box.mk hF9.2
     replace B0 := Box.mk (show Below w.heap.size w w9 from ⟨hw9.os.trans B0.out.os, hw9.tape.trans B0.out.tape, hw9.output.trans B0.out.output, Nat.le_trans B0.out.size hw9.size, fun k hk => (hw9.block k (Nat.lt_of_lt_of_le hk B0.out.size) (nb k (by omega))).trans (B0.out.block k hk)⟩)
     clear hF9 hw9
     simp only [List.drop]
     try go_frame
     go_wp2_with fail
     refine bodyPost_ret (results_row_tmp (p := 2) (q := 3) (ty := 56) rfl _ _ br 56 (ecell g7) (.bool false) _ rfl HR.out rfl Tryz.underlying56 rfl (by kernel_rfl)) rfl ⟨g7, by rw [← HA.out, E2.out], Lg7.out, by rw [HV1.out, ← HA.out, E1.out], B0.out⟩
end Go.Proofs.YtafhncpaoolljaaGreat.Fe
