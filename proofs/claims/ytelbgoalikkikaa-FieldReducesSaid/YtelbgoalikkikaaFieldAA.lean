/- The package field and the document's answer: what each call answers, as one value. -/
import Derived.Test.YtelbgoalikkikaaFieldZ
namespace Go.Proofs.Ytelbgoalikkikaa.Fe
set_option linter.unusedVariables false
open Go Go.RowKit

/-- Is a string an element's? -/
@[irreducible] def isF (s : ByteArray) : Bool := decide (s.size = 32 ∧ num s < fp)
theorem isF_eq (s : ByteArray) : isF s = decide (s.size = 32 ∧ num s < fp) := by unfold isF; first | done | rfl
theorem isF_yes {s : ByteArray} (h : isF s = true) : s.size = 32 ∧ num s < fp := by rw [isF_eq] at h; exact of_decide_eq_true h
theorem isF_mk {s : ByteArray} (h : s.size = 32) (h2 : num s < fp) : isF s = true := by rw [isF_eq]; exact decide_eq_true ⟨h, h2⟩
theorem lv_num (s : ByteArray) : lv (ofN (num s)) = num s % (fp + 19) := by rw [ofN_lv, fp_eq]
theorem lv_el {s : ByteArray} (h : num s < fp) : lv (ofN (num s)) = num s := by rw [lv_num]; exact Nat.mod_eq_of_lt (by omega)
theorem fp_256 : fp < 256 ^ 32 := by rw [fp_eq]; decide
theorem is_key {s : ByteArray} (h : s.size = 32) : (sbytes (lv (ofN (num s)) % fp) = s) ↔ num s < fp := by
  constructor
  · intro e
    have h1 := congrArg num e
    rw [num_sbytes, Nat.mod_eq_of_lt (Nat.lt_trans (Nat.mod_lt _ fp_pos) fp_256)] at h1
    rw [← h1]; exact Nat.mod_lt _ fp_pos
  · intro e
    rw [lv_el e, Nat.mod_eq_of_lt e, sbytes_num h]
set_option maxHeartbeats 1000000 in
theorem is_any (s : ByteArray) (w : World) : Calls Try.prog 21 #[.string s] w fun e w' => e = .returned (.bool (isF s)) ∧ Gr w w' := by
  by_cases h : s.size = 32
  · have h' : ((s.size : Int) == 32) = true := by rw [beq_iff_eq]; omega
    have H := Box.mk h; clear h
    go_enter Try.func21, Try.ntmps21
    go_wp2_with fail
    refine (from_any s H.out _).mono ?_
    rintro e w1 ⟨rfl, hb1⟩
    have HB1 := Box.mk hb1; clear hb1
    go_wp2_with fail
    refine (bytes_any _ (ofN_lim _).zero _).mono ?_
    rintro e w2 ⟨rfl, hb2⟩
    have HB2 := Box.mk (Gr.trans HB1.out hb2); clear hb2
    go_wp2
    go_ret
    refine ⟨?_, HB2.out⟩
    show Ending.returned (Value.bool ((sbytes (lv (ofN (num s)) % fp)).toList == s.toList)) = _
    rw [beq_toList, isF_eq]
    simp only [is_key H.out, H.out, true_and]
  · have h' : ((s.size : Int) == 32) = false := by rw [beq_eq_false_iff_ne]; omega
    have H := Box.mk h; clear h
    go_enter Try.func21, Try.ntmps21
    go_wp2
    go_ret
    refine ⟨?_, Gr.refl _⟩
    rw [isF_eq, decide_eq_false (fun h => H.out h.1)]; rfl
theorem is_at {s : ByteArray} {b : Bool} (h : isF s = b) (w : World) : Calls Try.prog 21 #[.string s] w fun e w' => e = .returned (.bool b) ∧ Gr w w' := h ▸ is_any s w
/-- Three results: two in blocks, one in a slot. -/
theorem results_rows2_tmp {P : Program} {fn : Func} {p p2 q : Tmp} {ty : TypeId} (h : fn.results = #[.cell p ty, .cell p2 ty, .tmp q]) (tmps : Array Value) (w : World) (g k : Nat) (t : TypeId) (cs ds : Array Value) (v : Value) (d : TypeDesc)
    (hp : tmps.getD p undef = .pointer (some ⟨g, 0, none⟩)) (hg : w.heap[g]? = some (.cells cs t (0, 0))) (hp2 : tmps.getD p2 undef = .pointer (some ⟨k, 0, none⟩)) (hk : w.heap[k]? = some (.cells ds t (0, 0))) (hq : tmps.getD q undef = v)
    (hu : P.underlying ty = some d) (hd : (match d with | .struct _ | .array _ _ => true | _ => false) = true) (hi : (P.info? ty).map (·.size) = some cs.size) (hj : (P.info? ty).map (·.size) = some ds.size) :
    (results fn tmps).run P w = .ok (.tuple #[.agg cs, .agg ds, v]) w := by
  have hp' : tmps[p]?.getD undef = .pointer (some ⟨g, 0, none⟩) := by simpa using hp
  have hp2' : tmps[p2]?.getD undef = .pointer (some ⟨k, 0, none⟩) := by simpa using hp2
  have hq' : tmps[q]?.getD undef = v := by simpa using hq
  simp [results, h, hp', hp2', hq', asAddr, run_loadVar_row w g t ty cs (0, 0) d hg hu hd hi, run_loadVar_row w k t ty ds (0, 0) d hk hu hd hj]
def twoR (a b : ByteArray) : Value := if isF a && isF b then .tuple #[.agg (ecell (ofN (num a))), .agg (ecell (ofN (num b))), .bool true] else .tuple #[.agg (ecell f0), .agg (ecell f0), .bool false]
set_option maxRecDepth 100000 in
set_option maxHeartbeats 2000000 in
theorem two_yes (a b : ByteArray) (ha : isF a = true) (hb : isF b = true) (w : World) :
    Calls Try.prog 26 #[.string a, .string b] w fun e w' => e = .returned (.tuple #[.agg (ecell (ofN (num a))), .agg (ecell (ofN (num b))), .bool true]) ∧ Gr w w' := by
  have hz := zeroE
  obtain ⟨W0, hW0⟩ : ∃ W, W = (w.alloc (.cells z5 35)).alloc (.cells z5 35) := ⟨_, rfl⟩
  have g0 : W0.heap[w.heap.size]? = some (.cells (ecell f0) 35 (0, 0)) := by rw [hW0, heap_alloc_old _ _ (by simp)]; exact heap_alloc_new _ _
  have g1 : W0.heap[w.heap.size + 1]? = some (.cells (ecell f0) 35 (0, 0)) := by
    have := heap_alloc_new (w.alloc (.cells z5 35)) (.cells z5 35)
    rw [World.size_alloc] at this
    rw [hW0]; exact this
  have b0 : Gr w W0 := by rw [hW0]; exact (Gr.alloc _ _).trans (Gr.alloc _ _)
  have G0 := Box.mk g0; have G1 := Box.mk g1; have B0 := Box.mk b0; have HA := Box.mk ha; have HB := Box.mk hb
  clear g0 g1 b0 ha hb
  go_enter Try.func26, Try.ntmps26
  go_upto_region 1 with (fail)
  rw [← hW0]
  clear hW0 hz
  go_wp2_with fail
  refine (is_at HA.out _).mono ?_
  rintro e w1 ⟨rfl, hg⟩
  replace G0 := Box.mk (hg.block G0.out); replace G1 := Box.mk (hg.block G1.out); replace B0 := Box.mk (B0.out.trans hg)
  clear hg
  go_wp2_with fail
  refine (is_at HB.out _).mono ?_
  rintro e w2 ⟨rfl, hg⟩
  replace G0 := Box.mk (hg.block G0.out); replace G1 := Box.mk (hg.block G1.out); replace B0 := Box.mk (B0.out.trans hg)
  clear hg
  go_wp2_with fail
  refine (from_any a (isF_yes HA.out).1 _).mono ?_
  rintro e w3 ⟨rfl, hg⟩
  replace hg := Gr.of hg
  replace G0 := Box.mk (hg.block G0.out); replace G1 := Box.mk (hg.block G1.out); replace B0 := Box.mk (B0.out.trans hg)
  clear hg
  go_wp2_with fail
  refine (from_any b (isF_yes HB.out).1 _).mono ?_
  rintro e w4 ⟨rfl, hg⟩
  replace hg := Gr.of hg
  replace G0 := Box.mk (hg.block G0.out); replace G1 := Box.mk (hg.block G1.out); replace B0 := Box.mk (B0.out.trans hg)
  clear hg
  replace G1 := Box.mk (show (w4.setRow w.heap.size (ecell (ofN (num a)))).heap[w.heap.size + 1]? = some (.cells (ecell f0) 35 (0, 0)) from by rw [setRow_other _ _ _ _ (by omega)]; exact G1.out)
  go_wp2_with (first
    | ((with_reducible refine wpList_storeE rfl (.tmp 4) (.tmp 18) rfl w.heap.size (ofN (num a)) f0 G0.out ?_ ?_ ?_); rfl; rfl)
    | ((with_reducible refine wpList_storeE rfl (.tmp 5) (.tmp 20) rfl (w.heap.size + 1) (ofN (num b)) f0 G1.out ?_ ?_ ?_); rfl; rfl))
  refine bodyPost_ret (results_rows2_tmp (p := 4) (p2 := 5) (q := 6) (ty := 35) rfl _ _ w.heap.size (w.heap.size + 1) 35 (ecell (ofN (num a))) (ecell (ofN (num b))) (.bool true) _ rfl ?_ rfl (setRow_heap _ _ _ _ _ _ G1.out) rfl Try.underlying35 rfl (by kernel_rfl) (by kernel_rfl)) rfl ⟨rfl, (B0.out.setRow (Nat.le_refl _) _).setRow (by omega) _⟩
  rw [setRow_other _ _ _ _ (by omega)]; exact setRow_heap _ _ _ _ _ _ G0.out
set_option maxRecDepth 100000 in
set_option maxHeartbeats 2000000 in
theorem two_no (a b : ByteArray) (h : (isF a && isF b) = false) (w : World) :
    Calls Try.prog 26 #[.string a, .string b] w fun e w' => ∃ x y : Nat → Nat, e = .returned (.tuple #[.agg (ecell x), .agg (ecell y), .bool false]) ∧ Gr w w' := by
  have hz := zeroE
  obtain ⟨W0, hW0⟩ : ∃ W, W = (w.alloc (.cells z5 35)).alloc (.cells z5 35) := ⟨_, rfl⟩
  have g0 : W0.heap[w.heap.size]? = some (.cells (ecell f0) 35 (0, 0)) := by rw [hW0, heap_alloc_old _ _ (by simp)]; exact heap_alloc_new _ _
  have g1 : W0.heap[w.heap.size + 1]? = some (.cells (ecell f0) 35 (0, 0)) := by
    have := heap_alloc_new (w.alloc (.cells z5 35)) (.cells z5 35)
    rw [World.size_alloc] at this
    rw [hW0]; exact this
  have b0 : Gr w W0 := by rw [hW0]; exact (Gr.alloc _ _).trans (Gr.alloc _ _)
  have G0 := Box.mk g0; have G1 := Box.mk g1; have B0 := Box.mk b0; have HH := Box.mk h
  clear g0 g1 b0 h
  by_cases ha : isF a = true
  · have hb : isF b = false := by have := HH.out; rw [ha] at this; simpa using this
    have HA := Box.mk ha; have HB := Box.mk hb
    clear ha hb
    go_enter Try.func26, Try.ntmps26
    go_upto_region 1 with (fail)
    rw [← hW0]
    clear hW0 hz
    go_wp2_with fail
    refine (is_at HA.out _).mono ?_
    rintro e w1 ⟨rfl, hg⟩
    replace G0 := Box.mk (hg.block G0.out); replace G1 := Box.mk (hg.block G1.out); replace B0 := Box.mk (B0.out.trans hg)
    clear hg
    go_wp2_with fail
    refine (is_at HB.out _).mono ?_
    rintro e w2 ⟨rfl, hg⟩
    replace G0 := Box.mk (hg.block G0.out); replace G1 := Box.mk (hg.block G1.out); replace B0 := Box.mk (B0.out.trans hg)
    clear hg
    go_upto_region 2 with (fail)
    refine wp_region_mix 4 [.flo, .flo, .flo, .flo] (by kernel_rfl) (by kernel_rfl) rfl ?_
    simp only [List.take, List.zip, List.zipWith]
    refine gm_loadE (.tmp 4) rfl w.heap.size f0 G0.out rfl ?_
    refine gm_loadE (.tmp 5) rfl (w.heap.size + 1) f0 G1.out rfl ?_
    refine gm_store_same (.tmp 4) (.tmp 15) rfl w.heap.size (ecell f0) 35 rfl rfl (fun h => by cases h) rfl (by kernel_rfl) (ecell_one f0) G0.out ?_
    refine gm_store_same (.tmp 5) (.tmp 16) rfl (w.heap.size + 1) (ecell f0) 35 rfl rfl (fun h => by cases h) rfl (by kernel_rfl) (ecell_one f0) G1.out ?_
    refine gm_nil ?_
    intro w7 hw7 _
    simp only [List.drop]
    replace G0 := Box.mk (hw7.block G0.out); replace G1 := Box.mk (hw7.block G1.out); replace B0 := Box.mk (B0.out.trans (Gr.trans (show Gr w2 w2.drew from (Below.refl _ _).drew) hw7))
    clear hw7
    go_frame
    go_wp2_with fail
    exact bodyPost_ret (results_rows2_tmp (p := 4) (p2 := 5) (q := 6) (ty := 35) rfl _ _ w.heap.size (w.heap.size + 1) 35 (ecell f0) (ecell f0) (.bool false) _ rfl G0.out rfl G1.out rfl Try.underlying35 rfl (by kernel_rfl) (by kernel_rfl)) rfl ⟨f0, f0, rfl, B0.out⟩
  · have HA := Box.mk (show isF a = false by simpa using ha)
    clear ha
    go_enter Try.func26, Try.ntmps26
    go_upto_region 1 with (fail)
    rw [← hW0]
    clear hW0 hz
    go_wp2_with fail
    refine (is_at HA.out _).mono ?_
    rintro e w2 ⟨rfl, hg⟩
    replace G0 := Box.mk (hg.block G0.out); replace G1 := Box.mk (hg.block G1.out); replace B0 := Box.mk (B0.out.trans hg)
    clear hg
    go_upto_region 2 with (fail)
    refine wp_region_mix 4 [.flo, .flo, .flo, .flo] (by kernel_rfl) (by kernel_rfl) rfl ?_
    simp only [List.take, List.zip, List.zipWith]
    refine gm_loadE (.tmp 4) rfl w.heap.size f0 G0.out rfl ?_
    refine gm_loadE (.tmp 5) rfl (w.heap.size + 1) f0 G1.out rfl ?_
    refine gm_store_same (.tmp 4) (.tmp 15) rfl w.heap.size (ecell f0) 35 rfl rfl (fun h => by cases h) rfl (by kernel_rfl) (ecell_one f0) G0.out ?_
    refine gm_store_same (.tmp 5) (.tmp 16) rfl (w.heap.size + 1) (ecell f0) 35 rfl rfl (fun h => by cases h) rfl (by kernel_rfl) (ecell_one f0) G1.out ?_
    refine gm_nil ?_
    intro w7 hw7 _
    simp only [List.drop]
    replace G0 := Box.mk (hw7.block G0.out); replace G1 := Box.mk (hw7.block G1.out); replace B0 := Box.mk (B0.out.trans (Gr.trans (show Gr w2 w2.drew from (Below.refl _ _).drew) hw7))
    clear hw7
    go_frame
    go_wp2_with fail
    exact bodyPost_ret (results_rows2_tmp (p := 4) (p2 := 5) (q := 6) (ty := 35) rfl _ _ w.heap.size (w.heap.size + 1) 35 (ecell f0) (ecell f0) (.bool false) _ rfl G0.out rfl G1.out rfl Try.underlying35 rfl (by kernel_rfl) (by kernel_rfl)) rfl ⟨f0, f0, rfl, B0.out⟩
end Go.Proofs.Ytelbgoalikkikaa.Fe
