/- The package field and the document's answer: sums, differences, products, inverses, roots: what each call answers, as one value. -/
import Derived.Test.YtelbgoalikkikaaFieldAA
namespace Go.Proofs.Ytelbgoalikkikaa.Fe
set_option linter.unusedVariables false
open Go Go.RowKit

/-- What a call answers: a string and no error; none. -/
def okS (s : ByteArray) : Value := .tuple #[.string s, .int .i64 0]
def noS : Value := .tuple #[.string ⟨#[]⟩, .int .i64 40]
theorem sub_val {x y h : Nat} (hy : y < fp) (hv : (h + y) % fp = x % fp) : h % fp = (x + (fp - y)) % fp := by
  have h1 : (h + y + (fp - y)) % fp = (x + (fp - y)) % fp := by rw [Nat.add_mod, hv, ← Nat.add_mod]
  rw [show h + y + (fp - y) = h + fp by omega, Nat.add_mod_right] at h1
  exact h1
def binR (n : Nat) (a b : ByteArray) : Value := if (isF a && isF b) = true then okS (sbytes n) else noS
theorem binR_yes {n : Nat} {a b : ByteArray} (h : (isF a && isF b) = true) : binR n a b = okS (sbytes n) := if_pos h
theorem binR_no {n : Nat} {a b : ByteArray} (h : (isF a && isF b) = false) : binR n a b = noS := if_neg (by rw [h]; exact fun h => by cases h)
set_option maxRecDepth 100000 in
set_option maxHeartbeats 2000000 in
theorem fadd_any (a b : ByteArray) (w : World) :
    Calls Try.prog 10 #[.string a, .string b] w fun e w' => e = .returned (binR ((num a + num b) % fp) a b) ∧ Gr w w' := by
  have hz := zeroE
  cases h : (isF a && isF b)
  · rw [binR_no h]
    have HH := Box.mk h; clear h
    go_enter Try.func10, Try.ntmps10
    go_wp2_with fail
    refine (two_no a b HH.out _).mono ?_
    rintro e w1 ⟨x, y, rfl, hg⟩
    have HG := Box.mk hg; clear hg
    have HS1 := Box.mk (show ((w1.alloc (.cells z5 35)).alloc (.cells z5 35)).heap[w1.heap.size]? = some (.cells (ecell f0) 35 (0, 0)) from by rw [heap_alloc_old _ _ (by simp)]; exact heap_alloc_new _ _)
    have HS2 := Box.mk (show (((w1.alloc (.cells z5 35)).alloc (.cells z5 35)).setRow w1.heap.size (ecell x)).heap[w1.heap.size + 1]? = some (.cells (ecell f0) 35 (0, 0)) from by
      rw [setRow_other _ _ _ _ (by omega)]
      have := heap_alloc_new (w1.alloc (.cells z5 35)) (.cells z5 35)
      rwa [World.size_alloc] at this)
    go_wp2_with (first
      | ((with_reducible refine wpList_storeE rfl (.tmp 6) (.tmp 13) rfl w1.heap.size x f0 HS1.out ?_ ?_ ?_); rfl; rfl)
      | ((with_reducible refine wpList_storeE rfl (.tmp 7) (.tmp 14) rfl (w1.heap.size + 1) y f0 HS2.out ?_ ?_ ?_); rfl; rfl))
    go_ret2
    exact ⟨rfl, HG.out.trans ((((Gr.alloc w1 _).trans (Gr.alloc _ _)).setRow (Nat.le_refl _) _).setRow (by omega) _)⟩
  · rw [binR_yes h]
    have ha0 : isF a = true := by rw [Bool.and_eq_true] at h; exact h.1
    have hb0 : isF b = true := by rw [Bool.and_eq_true] at h; exact h.2
    have HA := Box.mk ha0; have HB := Box.mk hb0
    clear h ha0 hb0
    go_enter Try.func10, Try.ntmps10
    go_wp2_with fail
    refine (two_yes a b HA.out HB.out _).mono ?_
    rintro e w1 ⟨rfl, hg⟩
    have HG := Box.mk hg; clear hg
    have HS1 := Box.mk (show ((w1.alloc (.cells z5 35)).alloc (.cells z5 35)).heap[w1.heap.size]? = some (.cells (ecell f0) 35 (0, 0)) from by rw [heap_alloc_old _ _ (by simp)]; exact heap_alloc_new _ _)
    have HS2 := Box.mk (show (((w1.alloc (.cells z5 35)).alloc (.cells z5 35)).setRow w1.heap.size (ecell (ofN (num a)))).heap[w1.heap.size + 1]? = some (.cells (ecell f0) 35 (0, 0)) from by
      rw [setRow_other _ _ _ _ (by omega)]
      have := heap_alloc_new (w1.alloc (.cells z5 35)) (.cells z5 35)
      rwa [World.size_alloc] at this)
    obtain ⟨W2, hW2⟩ : ∃ W, W = (((w1.alloc (.cells z5 35)).alloc (.cells z5 35)).setRow w1.heap.size (ecell (ofN (num a)))).setRow (w1.heap.size + 1) (ecell (ofN (num b))) := ⟨_, rfl⟩
    go_upto_region 4 with (first
      | ((with_reducible refine wpList_storeE rfl (.tmp 6) (.tmp 13) rfl w1.heap.size (ofN (num a)) f0 HS1.out ?_ ?_ ?_); rfl; rfl)
      | ((with_reducible refine wpList_storeE rfl (.tmp 7) (.tmp 14) rfl (w1.heap.size + 1) (ofN (num b)) f0 HS2.out ?_ ?_ ?_); rfl; rfl))
    rw [← hW2]
    have G0 := Box.mk (show W2.heap[w1.heap.size]? = some (.cells (ecell (ofN (num a))) 35 (0, 0)) from by rw [hW2, setRow_other _ _ _ _ (by omega)]; exact setRow_heap _ _ _ _ _ _ HS1.out)
    have G1 := Box.mk (show W2.heap[w1.heap.size + 1]? = some (.cells (ecell (ofN (num b))) 35 (0, 0)) from by rw [hW2]; exact setRow_heap _ _ _ _ _ _ HS2.out)
    have B0 := Box.mk (show Gr w W2 from by rw [hW2]; exact HG.out.trans ((((Gr.alloc w1 _).trans (Gr.alloc _ _)).setRow (Nat.le_refl _) _).setRow (by omega) _))
    clear hW2 HS1 HS2 HG hz
    go_wp2_with (first
      | ((with_reducible refine wpList_loadE rfl (.tmp 6) rfl w1.heap.size (ofN (num a)) G0.out ?_ ?_); rfl)
      | ((with_reducible refine wpList_loadE rfl (.tmp 7) rfl (w1.heap.size + 1) (ofN (num b)) G1.out ?_ ?_); rfl))
    refine (addm_any _ _ (ofN_lim _).two (ofN_lim _).two _).mono ?_
    rintro e w3 ⟨h, rfl, hl, hv, hg⟩
    replace B0 := Box.mk (B0.out.trans (Gr.of hg))
    have hv' : lv h % fp = (num a + num b) % fp := by
      have ha := (isF_yes HA.out).2; have hb := (isF_yes HB.out).2
      rw [hv, lv_el ha, lv_el hb]
    have HL := Box.mk hl; have HV := Box.mk hv'
    clear hg hl hv hv'
    go_wp2_with fail
    refine (bytes_any _ HL.out.zero _).mono ?_
    rintro e w4 ⟨rfl, hg⟩
    replace B0 := Box.mk (B0.out.trans (Gr.of hg))
    clear hg
    rw [HV.out]
    go_wp2
    go_ret2
    exact ⟨rfl, B0.out⟩
set_option maxRecDepth 100000 in
set_option maxHeartbeats 2000000 in
theorem fsub_any (a b : ByteArray) (w : World) :
    Calls Try.prog 12 #[.string a, .string b] w fun e w' => e = .returned (binR ((num a + (fp - num b)) % fp) a b) ∧ Gr w w' := by
  have hz := zeroE
  cases h : (isF a && isF b)
  · rw [binR_no h]
    have HH := Box.mk h; clear h
    go_enter Try.func12, Try.ntmps12
    go_wp2_with fail
    refine (two_no a b HH.out _).mono ?_
    rintro e w1 ⟨x, y, rfl, hg⟩
    have HG := Box.mk hg; clear hg
    have HS1 := Box.mk (show ((w1.alloc (.cells z5 35)).alloc (.cells z5 35)).heap[w1.heap.size]? = some (.cells (ecell f0) 35 (0, 0)) from by rw [heap_alloc_old _ _ (by simp)]; exact heap_alloc_new _ _)
    have HS2 := Box.mk (show (((w1.alloc (.cells z5 35)).alloc (.cells z5 35)).setRow w1.heap.size (ecell x)).heap[w1.heap.size + 1]? = some (.cells (ecell f0) 35 (0, 0)) from by
      rw [setRow_other _ _ _ _ (by omega)]
      have := heap_alloc_new (w1.alloc (.cells z5 35)) (.cells z5 35)
      rwa [World.size_alloc] at this)
    go_wp2_with (first
      | ((with_reducible refine wpList_storeE rfl (.tmp 6) (.tmp 13) rfl w1.heap.size x f0 HS1.out ?_ ?_ ?_); rfl; rfl)
      | ((with_reducible refine wpList_storeE rfl (.tmp 7) (.tmp 14) rfl (w1.heap.size + 1) y f0 HS2.out ?_ ?_ ?_); rfl; rfl))
    go_ret2
    exact ⟨rfl, HG.out.trans ((((Gr.alloc w1 _).trans (Gr.alloc _ _)).setRow (Nat.le_refl _) _).setRow (by omega) _)⟩
  · rw [binR_yes h]
    have ha0 : isF a = true := by rw [Bool.and_eq_true] at h; exact h.1
    have hb0 : isF b = true := by rw [Bool.and_eq_true] at h; exact h.2
    have HA := Box.mk ha0; have HB := Box.mk hb0
    clear h ha0 hb0
    go_enter Try.func12, Try.ntmps12
    go_wp2_with fail
    refine (two_yes a b HA.out HB.out _).mono ?_
    rintro e w1 ⟨rfl, hg⟩
    have HG := Box.mk hg; clear hg
    have HS1 := Box.mk (show ((w1.alloc (.cells z5 35)).alloc (.cells z5 35)).heap[w1.heap.size]? = some (.cells (ecell f0) 35 (0, 0)) from by rw [heap_alloc_old _ _ (by simp)]; exact heap_alloc_new _ _)
    have HS2 := Box.mk (show (((w1.alloc (.cells z5 35)).alloc (.cells z5 35)).setRow w1.heap.size (ecell (ofN (num a)))).heap[w1.heap.size + 1]? = some (.cells (ecell f0) 35 (0, 0)) from by
      rw [setRow_other _ _ _ _ (by omega)]
      have := heap_alloc_new (w1.alloc (.cells z5 35)) (.cells z5 35)
      rwa [World.size_alloc] at this)
    obtain ⟨W2, hW2⟩ : ∃ W, W = (((w1.alloc (.cells z5 35)).alloc (.cells z5 35)).setRow w1.heap.size (ecell (ofN (num a)))).setRow (w1.heap.size + 1) (ecell (ofN (num b))) := ⟨_, rfl⟩
    go_upto_region 4 with (first
      | ((with_reducible refine wpList_storeE rfl (.tmp 6) (.tmp 13) rfl w1.heap.size (ofN (num a)) f0 HS1.out ?_ ?_ ?_); rfl; rfl)
      | ((with_reducible refine wpList_storeE rfl (.tmp 7) (.tmp 14) rfl (w1.heap.size + 1) (ofN (num b)) f0 HS2.out ?_ ?_ ?_); rfl; rfl))
    rw [← hW2]
    have G0 := Box.mk (show W2.heap[w1.heap.size]? = some (.cells (ecell (ofN (num a))) 35 (0, 0)) from by rw [hW2, setRow_other _ _ _ _ (by omega)]; exact setRow_heap _ _ _ _ _ _ HS1.out)
    have G1 := Box.mk (show W2.heap[w1.heap.size + 1]? = some (.cells (ecell (ofN (num b))) 35 (0, 0)) from by rw [hW2]; exact setRow_heap _ _ _ _ _ _ HS2.out)
    have B0 := Box.mk (show Gr w W2 from by rw [hW2]; exact HG.out.trans ((((Gr.alloc w1 _).trans (Gr.alloc _ _)).setRow (Nat.le_refl _) _).setRow (by omega) _))
    clear hW2 HS1 HS2 HG hz
    go_wp2_with (first
      | ((with_reducible refine wpList_loadE rfl (.tmp 6) rfl w1.heap.size (ofN (num a)) G0.out ?_ ?_); rfl)
      | ((with_reducible refine wpList_loadE rfl (.tmp 7) rfl (w1.heap.size + 1) (ofN (num b)) G1.out ?_ ?_); rfl))
    refine (subm_any _ _ (ofN_lim _).two (ofN_lim _).two _).mono ?_
    rintro e w3 ⟨h, rfl, hl, hv, hg⟩
    replace B0 := Box.mk (B0.out.trans (Gr.of hg))
    have hv' : lv h % fp = (num a + (fp - num b)) % fp := by
      have ha := (isF_yes HA.out).2; have hb := (isF_yes HB.out).2
      exact sub_val (by rw [← lv_el hb]; exact Nat.lt_of_le_of_lt (Nat.le_refl _) (by rw [lv_el hb]; exact hb)) (by rwa [lv_el ha, lv_el hb] at hv)
    have HL := Box.mk hl; have HV := Box.mk hv'
    clear hg hl hv hv'
    go_wp2_with fail
    refine (bytes_any _ HL.out.zero _).mono ?_
    rintro e w4 ⟨rfl, hg⟩
    replace B0 := Box.mk (B0.out.trans (Gr.of hg))
    clear hg
    rw [HV.out]
    go_wp2
    go_ret2
    exact ⟨rfl, B0.out⟩
set_option maxRecDepth 100000 in
set_option maxHeartbeats 2000000 in
theorem fmul_any (a b : ByteArray) (w : World) :
    Calls Try.prog 14 #[.string a, .string b] w fun e w' => e = .returned (binR (num a * num b % fp) a b) ∧ Gr w w' := by
  have hz := zeroE
  cases h : (isF a && isF b)
  · rw [binR_no h]
    have HH := Box.mk h; clear h
    go_enter Try.func14, Try.ntmps14
    go_wp2_with fail
    refine (two_no a b HH.out _).mono ?_
    rintro e w1 ⟨x, y, rfl, hg⟩
    have HG := Box.mk hg; clear hg
    have HS1 := Box.mk (show ((w1.alloc (.cells z5 35)).alloc (.cells z5 35)).heap[w1.heap.size]? = some (.cells (ecell f0) 35 (0, 0)) from by rw [heap_alloc_old _ _ (by simp)]; exact heap_alloc_new _ _)
    have HS2 := Box.mk (show (((w1.alloc (.cells z5 35)).alloc (.cells z5 35)).setRow w1.heap.size (ecell x)).heap[w1.heap.size + 1]? = some (.cells (ecell f0) 35 (0, 0)) from by
      rw [setRow_other _ _ _ _ (by omega)]
      have := heap_alloc_new (w1.alloc (.cells z5 35)) (.cells z5 35)
      rwa [World.size_alloc] at this)
    go_wp2_with (first
      | ((with_reducible refine wpList_storeE rfl (.tmp 6) (.tmp 13) rfl w1.heap.size x f0 HS1.out ?_ ?_ ?_); rfl; rfl)
      | ((with_reducible refine wpList_storeE rfl (.tmp 7) (.tmp 14) rfl (w1.heap.size + 1) y f0 HS2.out ?_ ?_ ?_); rfl; rfl))
    go_ret2
    exact ⟨rfl, HG.out.trans ((((Gr.alloc w1 _).trans (Gr.alloc _ _)).setRow (Nat.le_refl _) _).setRow (by omega) _)⟩
  · rw [binR_yes h]
    have ha0 : isF a = true := by rw [Bool.and_eq_true] at h; exact h.1
    have hb0 : isF b = true := by rw [Bool.and_eq_true] at h; exact h.2
    have HA := Box.mk ha0; have HB := Box.mk hb0
    clear h ha0 hb0
    go_enter Try.func14, Try.ntmps14
    go_wp2_with fail
    refine (two_yes a b HA.out HB.out _).mono ?_
    rintro e w1 ⟨rfl, hg⟩
    have HG := Box.mk hg; clear hg
    have HS1 := Box.mk (show ((w1.alloc (.cells z5 35)).alloc (.cells z5 35)).heap[w1.heap.size]? = some (.cells (ecell f0) 35 (0, 0)) from by rw [heap_alloc_old _ _ (by simp)]; exact heap_alloc_new _ _)
    have HS2 := Box.mk (show (((w1.alloc (.cells z5 35)).alloc (.cells z5 35)).setRow w1.heap.size (ecell (ofN (num a)))).heap[w1.heap.size + 1]? = some (.cells (ecell f0) 35 (0, 0)) from by
      rw [setRow_other _ _ _ _ (by omega)]
      have := heap_alloc_new (w1.alloc (.cells z5 35)) (.cells z5 35)
      rwa [World.size_alloc] at this)
    obtain ⟨W2, hW2⟩ : ∃ W, W = (((w1.alloc (.cells z5 35)).alloc (.cells z5 35)).setRow w1.heap.size (ecell (ofN (num a)))).setRow (w1.heap.size + 1) (ecell (ofN (num b))) := ⟨_, rfl⟩
    go_upto_region 4 with (first
      | ((with_reducible refine wpList_storeE rfl (.tmp 6) (.tmp 13) rfl w1.heap.size (ofN (num a)) f0 HS1.out ?_ ?_ ?_); rfl; rfl)
      | ((with_reducible refine wpList_storeE rfl (.tmp 7) (.tmp 14) rfl (w1.heap.size + 1) (ofN (num b)) f0 HS2.out ?_ ?_ ?_); rfl; rfl))
    rw [← hW2]
    have G0 := Box.mk (show W2.heap[w1.heap.size]? = some (.cells (ecell (ofN (num a))) 35 (0, 0)) from by rw [hW2, setRow_other _ _ _ _ (by omega)]; exact setRow_heap _ _ _ _ _ _ HS1.out)
    have G1 := Box.mk (show W2.heap[w1.heap.size + 1]? = some (.cells (ecell (ofN (num b))) 35 (0, 0)) from by rw [hW2]; exact setRow_heap _ _ _ _ _ _ HS2.out)
    have B0 := Box.mk (show Gr w W2 from by rw [hW2]; exact HG.out.trans ((((Gr.alloc w1 _).trans (Gr.alloc _ _)).setRow (Nat.le_refl _) _).setRow (by omega) _))
    clear hW2 HS1 HS2 HG hz
    go_wp2_with (first
      | ((with_reducible refine wpList_loadE rfl (.tmp 6) rfl w1.heap.size (ofN (num a)) G0.out ?_ ?_); rfl)
      | ((with_reducible refine wpList_loadE rfl (.tmp 7) rfl (w1.heap.size + 1) (ofN (num b)) G1.out ?_ ?_); rfl))
    refine (mul_any _ _ (ofN_lim _).two (ofN_lim _).two _).mono ?_
    rintro e w3 ⟨h, rfl, hl, hv, hg⟩
    replace B0 := Box.mk (B0.out.trans (Gr.of hg))
    have hv' : lv h % fp = num a * num b % fp := by
      have ha := (isF_yes HA.out).2; have hb := (isF_yes HB.out).2
      rw [hv, lv_el ha, lv_el hb]
    have HL := Box.mk hl; have HV := Box.mk hv'
    clear hg hl hv hv'
    go_wp2_with fail
    refine (bytes_any _ HL.out.zero _).mono ?_
    rintro e w4 ⟨rfl, hg⟩
    replace B0 := Box.mk (B0.out.trans (Gr.of hg))
    clear hg
    rw [HV.out]
    go_wp2
    go_ret2
    exact ⟨rfl, B0.out⟩
def uniR (n : Nat) (a : ByteArray) : Value := if isF a = true then okS (sbytes n) else noS
theorem uniR_yes {n : Nat} {a : ByteArray} (h : isF a = true) : uniR n a = okS (sbytes n) := if_pos h
theorem uniR_no {n : Nat} {a : ByteArray} (h : isF a = false) : uniR n a = noS := if_neg (by rw [h]; exact fun h => by cases h)
set_option maxRecDepth 100000 in
set_option maxHeartbeats 2000000 in
theorem finv_any (a : ByteArray) (w : World) :
    Calls Try.prog 17 #[.string a] w fun e w' => e = .returned (uniR (num a ^ (fp - 2) % fp) a) ∧ Gr w w' := by
  cases h : isF a
  · rw [uniR_no h]
    have HH := Box.mk h; clear h
    go_enter Try.func17, Try.ntmps17
    go_wp2_with fail
    refine (is_at HH.out _).mono ?_
    rintro e w1 ⟨rfl, hg⟩
    have HG := Box.mk hg; clear hg
    go_wp2
    go_ret2
    exact ⟨rfl, HG.out⟩
  · rw [uniR_yes h]
    have HH := Box.mk h; clear h
    go_enter Try.func17, Try.ntmps17
    go_wp2_with fail
    refine (is_at HH.out _).mono ?_
    rintro e w1 ⟨rfl, hg⟩
    have HG := Box.mk hg; clear hg
    go_wp2_with fail
    refine (from_any a (isF_yes HH.out).1 _).mono ?_
    rintro e w2 ⟨rfl, hg⟩
    replace HG := Box.mk (HG.out.trans (Gr.of hg)); clear hg
    go_wp2_with fail
    refine (inv_any _ (ofN_lim _).two _).mono ?_
    rintro e w3 ⟨h, rfl, hl, hv, hg⟩
    rw [lv_el (isF_yes HH.out).2] at hv
    replace HG := Box.mk (HG.out.trans (Gr.of hg)); clear hg
    have HL := Box.mk hl; have HV := Box.mk hv
    clear hl hv
    go_wp2_with fail
    refine (bytes_any _ HL.out.zero _).mono ?_
    rintro e w4 ⟨rfl, hg⟩
    replace HG := Box.mk (HG.out.trans (Gr.of hg)); clear hg
    rw [HV.out]
    go_wp2
    go_ret2
    exact ⟨rfl, HG.out⟩
def rootR (a : ByteArray) : Value :=
  if isF a = true then (if (rtN (num a)).2 = true then .tuple #[.string (sbytes (rtN (num a)).1), .bool true, .int .i64 0] else .tuple #[.string ⟨#[]⟩, .bool false, .int .i64 0])
  else .tuple #[.string ⟨#[]⟩, .bool false, .int .i64 40]
theorem rt_even {A : Nat} (h : (rtN A).2 = true) : (rtN A).1 = evenR (rawR A) := by
  unfold rawR
  unfold rtN at h ⊢
  by_cases h0 : tryR A 0 * tryR A 0 % fp = A
  · rw [if_pos h0, if_pos h0]
  · rw [if_neg h0] at h ⊢
    rw [if_neg h0]
    by_cases h1 : tryR A 1 * tryR A 1 % fp = A
    · rw [if_pos h1]
    · rw [if_neg h1] at h; cases h
theorem rawR_lt (A : Nat) : rawR A < fp := by unfold rawR; split <;> exact tryR_lt _ _
theorem neg_val {r h : Nat} (hr : r < fp) (h1 : 0 < r) (hv : (h + r) % fp = 0) : h % fp = fp - r := by
  have := sub_val (x := 0) hr (by rw [hv, Nat.zero_mod])
  rw [this, Nat.zero_add]; exact Nat.mod_eq_of_lt (by omega)
set_option maxRecDepth 100000 in
set_option maxHeartbeats 4000000 in
theorem froot_any (a : ByteArray) (w : World) :
    Calls Try.prog 19 #[.string a] w fun e w' => e = .returned (rootR a) ∧ Gr w w' := by
  cases h : isF a
  · have hr : rootR a = .tuple #[.string ⟨#[]⟩, .bool false, .int .i64 40] := by unfold rootR; rw [if_neg (by rw [h]; exact fun h => by cases h)]
    rw [hr]
    have HH := Box.mk h; clear h hr
    go_enter Try.func19, Try.ntmps19
    go_wp2_with fail
    refine (is_at HH.out _).mono ?_
    rintro e w1 ⟨rfl, hg⟩
    have HG := Box.mk hg; clear hg
    go_wp2
    go_ret3
    exact ⟨rfl, HG.out⟩
  · have hz := zeroE
    cases hok : (rtN (num a)).2
    · have hr : rootR a = .tuple #[.string ⟨#[]⟩, .bool false, .int .i64 0] := by unfold rootR; rw [if_pos h, hok]; rfl
      rw [hr]
      have HOK := Box.mk hok
      clear hok hr
      have HH := Box.mk h; clear h
      go_enter Try.func19, Try.ntmps19
      go_wp2_with fail
      refine (is_at HH.out _).mono ?_
      rintro e w1 ⟨rfl, hg⟩
      have HG := Box.mk hg; clear hg
      go_wp2_with fail
      refine (from_any a (isF_yes HH.out).1 _).mono ?_
      rintro e w2 ⟨rfl, hg⟩
      replace HG := Box.mk (HG.out.trans (Gr.of hg)); clear hg
      go_wp2_with fail
      refine (root_any _ (ofN_lim _).two _).mono ?_
      rintro e w3 ⟨h, rfl, hl, hv, hg⟩
      rw [lv_el (isF_yes HH.out).2, Nat.mod_eq_of_lt (isF_yes HH.out).2] at hv ⊢
      rw [HOK.out]
      replace HG := Box.mk (HG.out.trans (Gr.of hg)); clear hg
      have HL := Box.mk hl; have HV := Box.mk hv
      clear hl hv
      have HS1 := Box.mk (show (w3.alloc (.cells z5 35)).heap[w3.heap.size]? = some (.cells (ecell f0) 35 (0, 0)) from heap_alloc_new _ _)
      obtain ⟨W4, hW4⟩ : ∃ W, W = (w3.alloc (.cells z5 35)).setRow w3.heap.size (ecell h) := ⟨_, rfl⟩
      have G0 := Box.mk (show W4.heap[w3.heap.size]? = some (.cells (ecell h) 35 (0, 0)) from by rw [hW4]; exact setRow_heap _ _ _ _ _ _ HS1.out)
      have B0 := Box.mk (show Gr w W4 from by rw [hW4]; exact HG.out.trans ((Gr.alloc w3 _).setRow (Nat.le_refl _) _))
      have hle : w.heap.size ≤ w3.heap.size := HG.out.size
      go_wp2_with ((with_reducible refine wpList_storeE rfl (.tmp 5) (.tmp 14) rfl w3.heap.size h f0 HS1.out ?_ ?_ ?_); rfl; rfl)
      rw [← hW4]
      go_ret3
      exact ⟨rfl, B0.out⟩
    · cases hodd : oddB (rawR (num a))
      · have hr : rootR a = .tuple #[.string (sbytes (rawR (num a))), .bool true, .int .i64 0] := by
          unfold rootR; rw [if_pos h, rt_even hok, if_pos hok]; unfold evenR; unfold oddB at hodd
          rw [if_neg (fun e => by rw [e] at hodd; cases hodd)]
        rw [hr]
        have HOK := Box.mk hok; have HOD := Box.mk hodd
        clear hok hodd hr
        have HH := Box.mk h; clear h
        go_enter Try.func19, Try.ntmps19
        go_wp2_with fail
        refine (is_at HH.out _).mono ?_
        rintro e w1 ⟨rfl, hg⟩
        have HG := Box.mk hg; clear hg
        go_wp2_with fail
        refine (from_any a (isF_yes HH.out).1 _).mono ?_
        rintro e w2 ⟨rfl, hg⟩
        replace HG := Box.mk (HG.out.trans (Gr.of hg)); clear hg
        go_wp2_with fail
        refine (root_any _ (ofN_lim _).two _).mono ?_
        rintro e w3 ⟨h, rfl, hl, hv, hg⟩
        rw [lv_el (isF_yes HH.out).2, Nat.mod_eq_of_lt (isF_yes HH.out).2] at hv ⊢
        rw [HOK.out]
        replace HG := Box.mk (HG.out.trans (Gr.of hg)); clear hg
        have HL := Box.mk hl; have HV := Box.mk hv
        clear hl hv
        have HS1 := Box.mk (show (w3.alloc (.cells z5 35)).heap[w3.heap.size]? = some (.cells (ecell f0) 35 (0, 0)) from heap_alloc_new _ _)
        obtain ⟨W4, hW4⟩ : ∃ W, W = (w3.alloc (.cells z5 35)).setRow w3.heap.size (ecell h) := ⟨_, rfl⟩
        have G0 := Box.mk (show W4.heap[w3.heap.size]? = some (.cells (ecell h) 35 (0, 0)) from by rw [hW4]; exact setRow_heap _ _ _ _ _ _ HS1.out)
        have B0 := Box.mk (show Gr w W4 from by rw [hW4]; exact HG.out.trans ((Gr.alloc w3 _).setRow (Nat.le_refl _) _))
        have hle : w.heap.size ≤ w3.heap.size := HG.out.size
        go_upto_region 6 with ((with_reducible refine wpList_storeE rfl (.tmp 5) (.tmp 14) rfl w3.heap.size h f0 HS1.out ?_ ?_ ?_); rfl; rfl)
        rw [← hW4]
        clear hW4 HS1 hz
        go_wp2_with ((with_reducible refine wpList_loadE rfl (.tmp 5) rfl w3.heap.size h G0.out ?_ ?_); rfl)
        refine (odd_any _ HL.out.zero _).mono ?_
        rintro e w5 ⟨rfl, hg⟩
        replace G0 := Box.mk ((Gr.of hg).block G0.out); replace B0 := Box.mk (B0.out.trans (Gr.of hg)); clear hg
        rw [HV.out, HOD.out]
        go_wp2_with ((with_reducible refine wpList_loadE rfl (.tmp 5) rfl w3.heap.size h G0.out ?_ ?_); rfl)
        refine (bytes_any _ HL.out.zero _).mono ?_
        rintro e w6 ⟨rfl, hg⟩
        replace B0 := Box.mk (B0.out.trans (Gr.of hg)); clear hg
        rw [HV.out]
        go_wp2
        go_ret3
        exact ⟨rfl, B0.out⟩
      · have hp : rawR (num a) % 2 = 1 := by unfold oddB at hodd; exact eq_of_beq hodd
        have hr : rootR a = .tuple #[.string (sbytes (fp - rawR (num a))), .bool true, .int .i64 0] := by
          unfold rootR; rw [if_pos h, rt_even hok, if_pos hok]; unfold evenR
          rw [if_pos hp]
        rw [hr]
        have HOK := Box.mk hok; have HOD := Box.mk hodd; have HP := Box.mk hp
        clear hok hodd hr hp
        have HH := Box.mk h; clear h
        go_enter Try.func19, Try.ntmps19
        go_wp2_with fail
        refine (is_at HH.out _).mono ?_
        rintro e w1 ⟨rfl, hg⟩
        have HG := Box.mk hg; clear hg
        go_wp2_with fail
        refine (from_any a (isF_yes HH.out).1 _).mono ?_
        rintro e w2 ⟨rfl, hg⟩
        replace HG := Box.mk (HG.out.trans (Gr.of hg)); clear hg
        go_wp2_with fail
        refine (root_any _ (ofN_lim _).two _).mono ?_
        rintro e w3 ⟨h, rfl, hl, hv, hg⟩
        rw [lv_el (isF_yes HH.out).2, Nat.mod_eq_of_lt (isF_yes HH.out).2] at hv ⊢
        rw [HOK.out]
        replace HG := Box.mk (HG.out.trans (Gr.of hg)); clear hg
        have HL := Box.mk hl; have HV := Box.mk hv
        clear hl hv
        have HS1 := Box.mk (show (w3.alloc (.cells z5 35)).heap[w3.heap.size]? = some (.cells (ecell f0) 35 (0, 0)) from heap_alloc_new _ _)
        obtain ⟨W4, hW4⟩ : ∃ W, W = (w3.alloc (.cells z5 35)).setRow w3.heap.size (ecell h) := ⟨_, rfl⟩
        have G0 := Box.mk (show W4.heap[w3.heap.size]? = some (.cells (ecell h) 35 (0, 0)) from by rw [hW4]; exact setRow_heap _ _ _ _ _ _ HS1.out)
        have B0 := Box.mk (show Gr w W4 from by rw [hW4]; exact HG.out.trans ((Gr.alloc w3 _).setRow (Nat.le_refl _) _))
        have hle : w.heap.size ≤ w3.heap.size := HG.out.size
        go_upto_region 6 with ((with_reducible refine wpList_storeE rfl (.tmp 5) (.tmp 14) rfl w3.heap.size h f0 HS1.out ?_ ?_ ?_); rfl; rfl)
        rw [← hW4]
        clear hW4 HS1 hz
        go_wp2_with ((with_reducible refine wpList_loadE rfl (.tmp 5) rfl w3.heap.size h G0.out ?_ ?_); rfl)
        refine (odd_any _ HL.out.zero _).mono ?_
        rintro e w5 ⟨rfl, hg⟩
        replace G0 := Box.mk ((Gr.of hg).block G0.out); replace B0 := Box.mk (B0.out.trans (Gr.of hg)); clear hg
        rw [HV.out, HOD.out]
        go_wp2_with ((with_reducible refine wpList_loadE rfl (.tmp 5) rfl w3.heap.size h G0.out ?_ ?_); rfl)
        refine (neg_any _ HL.out _).mono ?_
        rintro e w6 ⟨g, rfl, hl, hv, hg⟩
        have hv2 : lv g % fp = fp - rawR (num a) := by
          rw [Nat.add_mod, HV.out] at hv
          have h3 := neg_val (r := rawR (num a)) (h := lv g % fp) (rawR_lt _) (by have := HP.out; omega) hv
          rwa [Nat.mod_mod] at h3
        replace G0 := Box.mk ((Gr.of hg).block G0.out); replace B0 := Box.mk (B0.out.trans (Gr.of hg))
        have HL2 := Box.mk hl; have HV2 := Box.mk hv2
        clear hg hl hv hv2
        have G1 := Box.mk (setRow_heap _ _ _ (ecell g) _ _ G0.out)
        go_wp2_with (first
          | ((with_reducible refine wpList_storeE rfl (.tmp 5) (.tmp 21) rfl w3.heap.size g h G0.out ?_ ?_ ?_); rfl; rfl)
          | ((with_reducible refine wpList_loadE rfl (.tmp 5) rfl w3.heap.size g G1.out ?_ ?_); rfl))
        refine (bytes_any _ HL2.out.zero _).mono ?_
        rintro e w7 ⟨rfl, hg⟩
        replace B0 := Box.mk ((B0.out.setRow hle (ecell g)).trans (Gr.of hg)); clear hg
        rw [HV2.out]
        go_wp2
        go_ret3
        exact ⟨rfl, B0.out⟩
end Go.Proofs.Ytelbgoalikkikaa.Fe
