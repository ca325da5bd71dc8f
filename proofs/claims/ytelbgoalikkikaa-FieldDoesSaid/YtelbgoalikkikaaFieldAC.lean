/- The document's answer on elements: what each call answers, as one value; field's Reduce. -/
import Derived.Test.YtelbgoalikkikaaFieldAB
namespace Go.Proofs.Ytelbgoalikkikaa.Fe
set_option linter.unusedVariables false
open Go Go.RowKit

set_option maxRecDepth 100000 in
set_option maxHeartbeats 1000000 in
theorem ris_any (s : ByteArray) (w : World) : Calls Try.prog 25 #[.string s] w fun e w' => e = .returned (.bool (isF s)) ∧ Gr w w' := by
  by_cases h : s.size = 32
  · have h' : ((s.size : Int) == 32) = true := by rw [beq_iff_eq]; omega
    have H := Box.mk h; clear h
    go_enter Try.func25, Try.ntmps25
    go_wp2_with fail
    refine (digitsD s H.out _).mono ?_
    rintro e w1 ⟨rfl, hg⟩
    have HG := Box.mk hg; clear hg
    go_wp2_with fail
    refine (pD _).mono ?_
    rintro e w2 ⟨rfl, hg⟩
    replace HG := Box.mk (HG.out.trans hg); clear hg
    go_wp2_with fail
    refine (belowD _ _ _ (num_dw s H.out) fp_dw).mono ?_
    rintro e w3 ⟨rfl, hg⟩
    replace HG := Box.mk (HG.out.trans hg); clear hg
    have hl : ltN (num s) fp = isF s := by
      rw [ltN_eq, isF_eq]; simp [H.out]
    rw [hl]
    clear hl
    go_wp2
    go_ret
    exact ⟨rfl, HG.out⟩
  · have h' : ((s.size : Int) == 32) = false := by rw [beq_eq_false_iff_ne]; omega
    have H := Box.mk h; clear h
    go_enter Try.func25, Try.ntmps25
    go_wp2
    go_ret
    refine ⟨?_, Gr.refl _⟩
    rw [isF_eq, decide_eq_false (fun h => H.out h.1)]; rfl
theorem ris_at {s : ByteArray} {b : Bool} (h : isF s = b) (w : World) : Calls Try.prog 25 #[.string s] w fun e w' => e = .returned (.bool b) ∧ Gr w w' := h ▸ ris_any s w
set_option maxRecDepth 100000 in
set_option maxHeartbeats 1000000 in
theorem rtwo_yes (a b : ByteArray) (ha : isF a = true) (hb : isF b = true) (w : World) : Calls Try.prog 29 #[.string a, .string b] w fun e w' => e = .returned (.int .i64 0) ∧ Gr w w' := by
  have HA := Box.mk ha; have HB := Box.mk hb
  clear ha hb
  go_enter Try.func29, Try.ntmps29
  go_wp2_with fail
  refine (ris_at HA.out _).mono ?_
  rintro e w1 ⟨rfl, hg⟩
  have HG := Box.mk hg; clear hg
  go_wp2_with fail
  refine (ris_at HB.out _).mono ?_
  rintro e w2 ⟨rfl, hg⟩
  replace HG := Box.mk (HG.out.trans hg); clear hg
  go_wp2
  go_ret
  exact ⟨rfl, HG.out⟩
set_option maxRecDepth 100000 in
set_option maxHeartbeats 1000000 in
theorem rtwo_no (a b : ByteArray) (h : (isF a && isF b) = false) (w : World) : Calls Try.prog 29 #[.string a, .string b] w fun e w' => e = .returned (.int .i64 40) ∧ Gr w w' := by
  cases ha : isF a
  · have HA := Box.mk ha
    clear ha h
    go_enter Try.func29, Try.ntmps29
    go_wp2_with fail
    refine (ris_at HA.out _).mono ?_
    rintro e w1 ⟨rfl, hg⟩
    have HG := Box.mk hg; clear hg
    go_wp2
    go_ret
    exact ⟨rfl, HG.out⟩
  · have hb : isF b = false := by rw [ha] at h; simpa using h
    have HA := Box.mk ha; have HB := Box.mk hb
    clear ha hb h
    go_enter Try.func29, Try.ntmps29
    go_wp2_with fail
    refine (ris_at HA.out _).mono ?_
    rintro e w1 ⟨rfl, hg⟩
    have HG := Box.mk hg; clear hg
    go_wp2_with fail
    refine (ris_at HB.out _).mono ?_
    rintro e w2 ⟨rfl, hg⟩
    replace HG := Box.mk (HG.out.trans hg); clear hg
    go_wp2
    go_ret
    exact ⟨rfl, HG.out⟩
theorem num_el {a : ByteArray} (h : isF a = true) : num a % fp = num a := Nat.mod_eq_of_lt (isF_yes h).2
theorem numE {a : ByteArray} (h : isF a = true) (w : World) : Calls Try.prog 32 #[.string a] w fun e w' => e = .returned (.agg (ncell (dg (num a)))) ∧ Gr w w' :=
  (numD a (isF_yes h).1 w).mono fun _ _ ⟨he, hg⟩ => ⟨by rw [he, num_el h], hg⟩
theorem el_dw {a : ByteArray} (h : isF a = true) : num a < dw 16 := Nat.lt_trans (isF_yes h).2 fp_dw
set_option maxRecDepth 100000 in
set_option maxHeartbeats 1000000 in
theorem radd_any (a b : ByteArray) (w : World) :
    Calls Try.prog 11 #[.string a, .string b] w fun e w' => e = .returned (binR ((num a + num b) % fp) a b) ∧ Gr w w' := by
  cases h : (isF a && isF b)
  · rw [binR_no h]
    have HH := Box.mk h; clear h
    go_enter Try.func11, Try.ntmps11
    go_wp2_with fail
    refine (rtwo_no a b HH.out _).mono ?_
    rintro e w1 ⟨rfl, hg⟩
    have HG := Box.mk hg; clear hg
    go_wp2
    go_ret2
    exact ⟨rfl, HG.out⟩
  · rw [binR_yes h]
    have ha0 : isF a = true := by rw [Bool.and_eq_true] at h; exact h.1
    have hb0 : isF b = true := by rw [Bool.and_eq_true] at h; exact h.2
    have HA := Box.mk ha0; have HB := Box.mk hb0
    clear h ha0 hb0
    go_enter Try.func11, Try.ntmps11
    go_wp2_with fail
    refine (rtwo_yes a b HA.out HB.out _).mono ?_
    rintro e w1 ⟨rfl, hg⟩
    have HG := Box.mk hg; clear hg
    go_wp2_with fail
    refine (numE HA.out _).mono ?_
    rintro e w2 ⟨rfl, hg⟩
    replace HG := Box.mk (HG.out.trans hg); clear hg
    go_wp2_with fail
    refine (numE HB.out _).mono ?_
    rintro e w3 ⟨rfl, hg⟩
    replace HG := Box.mk (HG.out.trans hg); clear hg
    go_wp2_with fail
    refine (plusD _ (num a) (num b) (el_dw HA.out) (el_dw HB.out)).mono ?_
    rintro e w4 ⟨rfl, hg⟩
    replace HG := Box.mk (HG.out.trans hg); clear hg
    obtain ⟨v, hv⟩ : ∃ v, v = (num a + num b) % fp := ⟨_, rfl⟩
    rw [← hv]
    have HV := Box.mk hv
    clear hv
    go_wp2_with fail
    refine (bytesD _ _).mono ?_
    rintro e w5 ⟨rfl, hg⟩
    replace HG := Box.mk (HG.out.trans hg); clear hg
    go_wp2
    go_ret2
    exact ⟨by rw [← HV.out]; rfl, HG.out⟩
set_option maxRecDepth 100000 in
set_option maxHeartbeats 1000000 in
theorem rsub_any (a b : ByteArray) (w : World) :
    Calls Try.prog 13 #[.string a, .string b] w fun e w' => e = .returned (binR ((num a + (fp - num b)) % fp) a b) ∧ Gr w w' := by
  cases h : (isF a && isF b)
  · rw [binR_no h]
    have HH := Box.mk h; clear h
    go_enter Try.func13, Try.ntmps13
    go_wp2_with fail
    refine (rtwo_no a b HH.out _).mono ?_
    rintro e w1 ⟨rfl, hg⟩
    have HG := Box.mk hg; clear hg
    go_wp2
    go_ret2
    exact ⟨rfl, HG.out⟩
  · rw [binR_yes h]
    have ha0 : isF a = true := by rw [Bool.and_eq_true] at h; exact h.1
    have hb0 : isF b = true := by rw [Bool.and_eq_true] at h; exact h.2
    have HA := Box.mk ha0; have HB := Box.mk hb0
    clear h ha0 hb0
    go_enter Try.func13, Try.ntmps13
    go_wp2_with fail
    refine (rtwo_yes a b HA.out HB.out _).mono ?_
    rintro e w1 ⟨rfl, hg⟩
    have HG := Box.mk hg; clear hg
    go_wp2_with fail
    refine (numE HA.out _).mono ?_
    rintro e w2 ⟨rfl, hg⟩
    replace HG := Box.mk (HG.out.trans hg); clear hg
    go_wp2_with fail
    refine (numE HB.out _).mono ?_
    rintro e w3 ⟨rfl, hg⟩
    replace HG := Box.mk (HG.out.trans hg); clear hg
    go_wp2_with fail
    refine (minusD (num a) (num b) (el_dw HA.out) (Nat.le_of_lt (isF_yes HB.out).2) _).mono ?_
    rintro e w4 ⟨rfl, hg⟩
    replace HG := Box.mk (HG.out.trans hg); clear hg
    obtain ⟨v, hv⟩ : ∃ v, v = (num a + (fp - num b)) % fp := ⟨_, rfl⟩
    rw [← hv]
    have HV := Box.mk hv
    clear hv
    go_wp2_with fail
    refine (bytesD _ _).mono ?_
    rintro e w5 ⟨rfl, hg⟩
    replace HG := Box.mk (HG.out.trans hg); clear hg
    go_wp2
    go_ret2
    exact ⟨by rw [← HV.out]; rfl, HG.out⟩
set_option maxRecDepth 100000 in
set_option maxHeartbeats 1000000 in
theorem rmul_any (a b : ByteArray) (w : World) :
    Calls Try.prog 15 #[.string a, .string b] w fun e w' => e = .returned (binR (num a * num b % fp) a b) ∧ Gr w w' := by
  cases h : (isF a && isF b)
  · rw [binR_no h]
    have HH := Box.mk h; clear h
    go_enter Try.func15, Try.ntmps15
    go_wp2_with fail
    refine (rtwo_no a b HH.out _).mono ?_
    rintro e w1 ⟨rfl, hg⟩
    have HG := Box.mk hg; clear hg
    go_wp2
    go_ret2
    exact ⟨rfl, HG.out⟩
  · rw [binR_yes h]
    have ha0 : isF a = true := by rw [Bool.and_eq_true] at h; exact h.1
    have hb0 : isF b = true := by rw [Bool.and_eq_true] at h; exact h.2
    have HA := Box.mk ha0; have HB := Box.mk hb0
    clear h ha0 hb0
    go_enter Try.func15, Try.ntmps15
    go_wp2_with fail
    refine (rtwo_yes a b HA.out HB.out _).mono ?_
    rintro e w1 ⟨rfl, hg⟩
    have HG := Box.mk hg; clear hg
    go_wp2_with fail
    refine (numE HA.out _).mono ?_
    rintro e w2 ⟨rfl, hg⟩
    replace HG := Box.mk (HG.out.trans hg); clear hg
    go_wp2_with fail
    refine (numE HB.out _).mono ?_
    rintro e w3 ⟨rfl, hg⟩
    replace HG := Box.mk (HG.out.trans hg); clear hg
    go_wp2_with fail
    refine (timesD _ (num a) (num b) (el_dw HA.out) (el_dw HB.out)).mono ?_
    rintro e w4 ⟨rfl, hg⟩
    replace HG := Box.mk (HG.out.trans hg); clear hg
    obtain ⟨v, hv⟩ : ∃ v, v = num a * num b % fp := ⟨_, rfl⟩
    rw [← hv]
    have HV := Box.mk hv
    clear hv
    go_wp2_with fail
    refine (bytesD _ _).mono ?_
    rintro e w5 ⟨rfl, hg⟩
    replace HG := Box.mk (HG.out.trans hg); clear hg
    go_wp2
    go_ret2
    exact ⟨by rw [← HV.out]; rfl, HG.out⟩
set_option maxRecDepth 100000 in
set_option maxHeartbeats 1000000 in
theorem rinv_any (a : ByteArray) (w : World) :
    Calls Try.prog 18 #[.string a] w fun e w' => e = .returned (uniR (num a ^ (fp - 2) % fp) a) ∧ Gr w w' := by
  cases h : isF a
  · rw [uniR_no h]
    have HH := Box.mk h; clear h
    go_enter Try.func18, Try.ntmps18
    go_wp2_with fail
    refine (ris_at HH.out _).mono ?_
    rintro e w1 ⟨rfl, hg⟩
    have HG := Box.mk hg; clear hg
    go_wp2
    go_ret2
    exact ⟨rfl, HG.out⟩
  · rw [uniR_yes h]
    have HH := Box.mk h; clear h
    go_enter Try.func18, Try.ntmps18
    go_wp2_with fail
    refine (ris_at HH.out _).mono ?_
    rintro e w1 ⟨rfl, hg⟩
    have HG := Box.mk hg; clear hg
    go_wp2_with fail
    refine (numE HH.out _).mono ?_
    rintro e w2 ⟨rfl, hg⟩
    replace HG := Box.mk (HG.out.trans hg); clear hg
    go_wp2_with fail
    refine (inverseD _ (el_dw HH.out) _).mono ?_
    rintro e w3 ⟨rfl, hg⟩
    replace HG := Box.mk (HG.out.trans hg); clear hg
    obtain ⟨v, hv⟩ : ∃ v, v = num a ^ (fp - 2) % fp := ⟨_, rfl⟩
    rw [← hv]
    have HV := Box.mk hv
    clear hv
    go_wp2_with fail
    refine (bytesD _ _).mono ?_
    rintro e w4 ⟨rfl, hg⟩
    replace HG := Box.mk (HG.out.trans hg); clear hg
    go_wp2
    go_ret2
    exact ⟨by rw [← HV.out]; rfl, HG.out⟩
set_option maxRecDepth 100000 in
set_option maxHeartbeats 1000000 in
theorem rroot_any (a : ByteArray) (w : World) :
    Calls Try.prog 20 #[.string a] w fun e w' => e = .returned (rootR a) ∧ Gr w w' := by
  cases h : isF a
  · have hr : rootR a = .tuple #[.string ⟨#[]⟩, .bool false, .int .i64 40] := by unfold rootR; rw [if_neg (by rw [h]; exact fun h => by cases h)]
    rw [hr]
    have HH := Box.mk h; clear h hr
    go_enter Try.func20, Try.ntmps20
    go_wp2_with fail
    refine (ris_at HH.out _).mono ?_
    rintro e w1 ⟨rfl, hg⟩
    have HG := Box.mk hg; clear hg
    go_wp2
    go_ret3
    exact ⟨rfl, HG.out⟩
  · have hz := zeroN
    cases hok : (rtN (num a)).2
    · have hr : rootR a = .tuple #[.string ⟨#[]⟩, .bool false, .int .i64 0] := by unfold rootR; rw [if_pos h, hok]; rfl
      rw [hr]
      have HOK := Box.mk hok; clear hok
      have HH := Box.mk h; clear h hr
      go_enter Try.func20, Try.ntmps20
      go_wp2_with fail
      refine (ris_at HH.out _).mono ?_
      rintro e w1 ⟨rfl, hg⟩
      have HG := Box.mk hg; clear hg
      go_wp2_with fail
      refine (numE HH.out _).mono ?_
      rintro e w2 ⟨rfl, hg⟩
      replace HG := Box.mk (HG.out.trans hg); clear hg
      go_wp2_with fail
      refine (rootsD _ (num a) (isF_yes HH.out).2).mono ?_
      rintro e w3 ⟨rfl, hg⟩
      rw [HOK.out]
      replace HG := Box.mk (HG.out.trans hg); clear hg
      obtain ⟨r, hr⟩ : ∃ r, r = (rtN (num a)).1 := ⟨_, rfl⟩
      rw [← hr]
      have HR := Box.mk hr
      clear hr
      have HS1 := Box.mk (show (w3.alloc (.cells (ncell f0) 43)).heap[w3.heap.size]? = some (.cells (ncell f0) 43 (0, 0)) from heap_alloc_new _ _)
      obtain ⟨W4, hW4⟩ : ∃ W, W = (w3.alloc (.cells (ncell f0) 43)).setRow w3.heap.size (ncell (dg r)) := ⟨_, rfl⟩
      have G0 := Box.mk (show W4.heap[w3.heap.size]? = some (.cells (ncell (dg r)) 43 (0, 0)) from by rw [hW4]; exact setRow_heap _ _ _ _ _ _ HS1.out)
      have B0 := Box.mk (show Gr w W4 from by rw [hW4]; exact HG.out.trans ((Gr.alloc w3 _).setRow (Nat.le_refl _) _))
      go_wp2_with ((with_reducible refine wpList_storeN rfl (.tmp 5) (.tmp 14) rfl w3.heap.size (dg r) f0 HS1.out ?_ ?_ ?_); rfl; rfl)
      rw [← hW4]
      go_ret3
      exact ⟨rfl, B0.out⟩
    · have hr : rootR a = .tuple #[.string (sbytes (rtN (num a)).1), .bool true, .int .i64 0] := by unfold rootR; rw [if_pos h, if_pos hok]
      rw [hr]
      have HOK := Box.mk hok; clear hok
      have HH := Box.mk h; clear h hr
      go_enter Try.func20, Try.ntmps20
      go_wp2_with fail
      refine (ris_at HH.out _).mono ?_
      rintro e w1 ⟨rfl, hg⟩
      have HG := Box.mk hg; clear hg
      go_wp2_with fail
      refine (numE HH.out _).mono ?_
      rintro e w2 ⟨rfl, hg⟩
      replace HG := Box.mk (HG.out.trans hg); clear hg
      go_wp2_with fail
      refine (rootsD _ (num a) (isF_yes HH.out).2).mono ?_
      rintro e w3 ⟨rfl, hg⟩
      rw [HOK.out]
      replace HG := Box.mk (HG.out.trans hg); clear hg
      obtain ⟨r, hr⟩ : ∃ r, r = (rtN (num a)).1 := ⟨_, rfl⟩
      rw [← hr]
      have HR := Box.mk hr
      clear hr
      have HS1 := Box.mk (show (w3.alloc (.cells (ncell f0) 43)).heap[w3.heap.size]? = some (.cells (ncell f0) 43 (0, 0)) from heap_alloc_new _ _)
      obtain ⟨W4, hW4⟩ : ∃ W, W = (w3.alloc (.cells (ncell f0) 43)).setRow w3.heap.size (ncell (dg r)) := ⟨_, rfl⟩
      have G0 := Box.mk (show W4.heap[w3.heap.size]? = some (.cells (ncell (dg r)) 43 (0, 0)) from by rw [hW4]; exact setRow_heap _ _ _ _ _ _ HS1.out)
      have B0 := Box.mk (show Gr w W4 from by rw [hW4]; exact HG.out.trans ((Gr.alloc w3 _).setRow (Nat.le_refl _) _))
      go_upto_region 6 with ((with_reducible refine wpList_storeN rfl (.tmp 5) (.tmp 14) rfl w3.heap.size (dg r) f0 HS1.out ?_ ?_ ?_); rfl; rfl)
      rw [← hW4]
      clear hW4 HS1 hz
      go_wp2_with ((with_reducible refine wpList_loadN rfl (.tmp 5) rfl w3.heap.size (dg r) G0.out ?_ ?_); rfl)
      refine (bytesD _ _).mono ?_
      rintro e w6 ⟨rfl, hg⟩
      replace B0 := Box.mk (B0.out.trans hg); clear hg
      go_wp2
      go_ret3
      exact ⟨by rw [← HR.out]; rfl, B0.out⟩
def redR (s : ByteArray) : Value := if s.size = 32 then okS (sbytes (num s % fp)) else noS
set_option maxRecDepth 100000 in
set_option maxHeartbeats 1000000 in
theorem rreduce_any (s : ByteArray) (w : World) :
    Calls Try.prog 24 #[.string s] w fun e w' => e = .returned (redR s) ∧ Gr w w' := by
  by_cases h : s.size = 32
  · have h' : ((s.size : Int) == 32) = true := by rw [beq_iff_eq]; omega
    have h'' : ((s.size : Int) != 32) = false := by simp; omega
    have hr : redR s = okS (sbytes (num s % fp)) := if_pos h
    rw [hr]
    have H := Box.mk h; clear h hr
    go_enter Try.func24, Try.ntmps24
    go_wp2_with fail
    refine (numD s H.out _).mono ?_
    rintro e w1 ⟨rfl, hg⟩
    have HG := Box.mk hg; clear hg
    go_wp2_with fail
    refine (bytesD _ _).mono ?_
    rintro e w2 ⟨rfl, hg⟩
    replace HG := Box.mk (HG.out.trans hg); clear hg
    go_wp2
    go_ret2
    exact ⟨rfl, HG.out⟩
  · have h' : ((s.size : Int) == 32) = false := by rw [beq_eq_false_iff_ne]; omega
    have h'' : ((s.size : Int) != 32) = true := by simp; omega
    have hr : redR s = noS := if_neg h
    rw [hr]
    clear h hr
    go_enter Try.func24, Try.ntmps24
    go_wp2
    go_ret2
    exact ⟨rfl, Gr.refl _⟩
theorem top_bit (s : ByteArray) (hs : s.size = 32) : num s = num s % (fp + 19) + (fp + 19) * (s[31].toNat / 128) := by
  have h1 : num s = leNat (s.data.toList.take 31) + 256 ^ 31 * s[31].toNat := by
    have e : s.data.toList = s.data.toList.take 31 ++ [s[31]] := by
      rw [← take_snoc s 31 (by omega), List.take_of_length_le (by simp; omega)]
    unfold num
    conv => lhs; rw [e]
    rw [leNat_snoc, List.length_take, Nat.min_eq_left (by simp; omega)]
  have h2 := leNat_lt (s.data.toList.take 31)
  rw [List.length_take, Nat.min_eq_left (by simp; omega)] at h2
  have h3 := s[31].toNat_lt
  have e : fp + 19 = 256 ^ 31 * 128 := by rw [fp_eq]
  rw [e, h1]
  generalize leNat (s.data.toList.take 31) = x at h2 ⊢
  generalize s[31].toNat = y at h3 ⊢
  generalize (256 : Nat) ^ 31 = K at h2 ⊢
  have hy : y = 128 * (y / 128) + y % 128 := by omega
  have hlt : x + K * (y % 128) < K * 128 := by
    have : K * (y % 128 + 1) ≤ K * 128 := Nat.mul_le_mul (Nat.le_refl _) (by omega)
    rw [Nat.mul_add] at this; omega
  have e2 : x + K * y = x + K * (y % 128) + K * 128 * (y / 128) := by
    conv => lhs; rw [hy]
    rw [Nat.mul_add, Nat.mul_assoc]; omega
  rw [e2, Nat.add_mul_mod_self_left, Nat.mod_eq_of_lt hlt]
set_option maxRecDepth 100000 in
set_option maxHeartbeats 2000000 in
theorem reduce_any (s : ByteArray) (w : World) :
    Calls Try.prog 23 #[.string s] w fun e w' => e = .returned (redR s) ∧ Gr w w' := by
  by_cases h : s.size = 32
  · have h' : ((s.size : Int) == 32) = true := by rw [beq_iff_eq]; omega
    have h'' : ((s.size : Int) != 32) = false := by simp; omega
    have hr : redR s = okS (sbytes (num s % fp)) := if_pos h
    rw [hr]
    have hz := zeroE
    have H := Box.mk h
    have hi : 31 < s.size := by omega
    have hiI : (31 : Int) < (s.size : Int) := by omega
    have htop := top_bit s h
    obtain ⟨t, ht⟩ : ∃ t, t = s[31].toNat := ⟨_, rfl⟩
    have hts : t < 256 := by rw [ht]; exact s[31].toNat_lt
    have htI : ((s[31].toNat : Nat) : Int) = (t : Int) := by rw [ht]
    rw [← ht] at htop
    have HT := Box.mk htop
    clear h hr htop ht
    go_enter Try.func23, Try.ntmps23
    go_wp2_with fail
    refine (from_any s H.out _).mono ?_
    rintro e w3 ⟨rfl, hg⟩
    have HG := Box.mk (Gr.of hg); clear hg
    have HS1 := Box.mk (show (w3.alloc (.cells z5 35)).heap[w3.heap.size]? = some (.cells (ecell f0) 35 (0, 0)) from heap_alloc_new _ _)
    obtain ⟨W4, hW4⟩ : ∃ W, W = (w3.alloc (.cells z5 35)).setRow w3.heap.size (ecell (ofN (num s))) := ⟨_, rfl⟩
    have G0 := Box.mk (show W4.heap[w3.heap.size]? = some (.cells (ecell (ofN (num s))) 35 (0, 0)) from by rw [hW4]; exact setRow_heap _ _ _ _ _ _ HS1.out)
    have B0 := Box.mk (show Gr w W4 from by rw [hW4]; exact HG.out.trans ((Gr.alloc w3 _).setRow (Nat.le_refl _) _))
    have hle : w.heap.size ≤ w3.heap.size := HG.out.size
    by_cases hb : 128 ≤ t
    · have hbI : (128 : Int) ≤ (t : Int) := by omega
      have hv : (lv (ofN (num s)) + lv (smF 19)) % fp = num s % fp := by
        rw [lv_num, smF_lv]
        conv => rhs; rw [HT.out]
        rw [show t / 128 = 1 by omega, Nat.mul_one]
        rw [show num s % (fp + 19) + (fp + 19) = num s % (fp + 19) + 19 + fp by omega, Nat.add_mod_right]
      have HV := Box.mk hv
      clear hv
      go_upto_region 5 with ((with_reducible refine wpList_storeE rfl (.tmp 4) (.tmp 9) rfl w3.heap.size (ofN (num s)) f0 HS1.out ?_ ?_ ?_); rfl; rfl)
      rw [← hW4]
      clear hW4 HS1 hz
      refine wp_region_mix 3 [.flo, .cha, .cha] (by kernel_rfl) (by kernel_rfl) rfl ?_
      simp only [List.take, List.zip, List.zipWith]
      refine gm_loadE (.tmp 4) rfl w3.heap.size (ofN (num s)) G0.out rfl ?_
      refine gm_call [.int .u64 19] (by kernel_rfl) rfl rfl Stb.tt (fun w1 hw1 _ => (small_any 19 (by omega) w1).mono ?_)
      rintro e w2 ⟨rfl, hw2⟩
      refine ⟨_, rfl, hw2, ?_⟩
      refine gm_call [.agg (ecell (ofN (num s))), .agg (ecell (smF 19))] (by kernel_rfl) rfl rfl Stb.tt (fun w1 hw1 _ => (addm_any _ _ (ofN_lim _).two (smF_lim 19 (by omega)).two w1).mono ?_)
      rintro e w2 ⟨h, rfl, hl, hv, hw2⟩
      refine ⟨_, rfl, hw2, ?_⟩
      rw [HV.out] at hv
      have HL := Box.mk hl; have HV2 := Box.mk hv
      clear hl hv
      refine gm_nil ?_
      intro w7 hw7 _
      simp only [List.drop]
      go_frame
      replace G0 := Box.mk (hw7.block G0.out); replace B0 := Box.mk (B0.out.trans (Gr.trans (show Gr W4 W4.drew from (Below.refl _ _).drew) hw7))
      clear hw7
      have G1 := Box.mk (setRow_heap _ _ _ (ecell h) _ _ G0.out)
      go_wp2_with (first
        | ((with_reducible refine wpList_storeE rfl (.tmp 4) (.tmp 15) rfl w3.heap.size h (ofN (num s)) G0.out ?_ ?_ ?_); rfl; rfl)
        | ((with_reducible refine wpList_loadE rfl (.tmp 4) rfl w3.heap.size h G1.out ?_ ?_); rfl))
      refine (bytes_any _ HL.out.zero _).mono ?_
      rintro e w8 ⟨rfl, hg⟩
      replace B0 := Box.mk ((B0.out.setRow hle (ecell h)).trans (Gr.of hg)); clear hg
      rw [HV2.out]
      go_wp2
      go_ret2
      exact ⟨rfl, B0.out⟩
    · have hbI : (t : Int) < 128 := by omega
      have hv : lv (ofN (num s)) % fp = num s % fp := by
        rw [lv_num]
        conv => rhs; rw [HT.out]
        rw [show t / 128 = 0 by omega, Nat.mul_zero]
        rfl
      have HV := Box.mk hv
      clear hv
      go_wp2_with (first
        | ((with_reducible refine wpList_storeE rfl (.tmp 4) (.tmp 9) rfl w3.heap.size (ofN (num s)) f0 HS1.out ?_ ?_ ?_); rfl; rfl)
        | ((with_reducible refine wpList_loadE rfl (.tmp 4) rfl w3.heap.size (ofN (num s)) (by rw [← hW4]; exact G0.out) ?_ ?_); rfl))
      rw [← hW4]
      refine (bytes_any _ (ofN_lim _).zero _).mono ?_
      rintro e w8 ⟨rfl, hg⟩
      replace B0 := Box.mk (B0.out.trans (Gr.of hg)); clear hg
      rw [HV.out]
      clear hW4
      go_wp2
      go_ret2
      exact ⟨rfl, B0.out⟩
  · have h' : ((s.size : Int) == 32) = false := by rw [beq_eq_false_iff_ne]; omega
    have h'' : ((s.size : Int) != 32) = true := by simp; omega
    have hr : redR s = noS := if_neg h
    rw [hr]
    clear h hr
    go_enter Try.func23, Try.ntmps23
    go_wp2
    go_ret2
    exact ⟨rfl, Gr.refl _⟩
end Go.Proofs.Ytelbgoalikkikaa.Fe
