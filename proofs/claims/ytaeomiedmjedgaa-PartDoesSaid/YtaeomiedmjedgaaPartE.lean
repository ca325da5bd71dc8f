/- The parts of a flash: regions, Plan; the document's Plan. -/
import Derived.Test.YtaeomiedmjedgaaPartD
namespace Go.Proofs.Ytaeomiedmjedgaa
set_option linter.unusedVariables false
open Go Go.RowKit

/-- The first t regions' cells. -/
def rgl (S L : Nat → Nat) (t : Nat) : List Value := (List.range t).flatMap fun j => [.int .i64 (S j : Nat), .int .i64 (L j : Nat)]
theorem rgl_zero (S L : Nat → Nat) : rgl S L 0 = [] := rfl
theorem rgl_succ (S L : Nat → Nat) (t : Nat) : rgl S L (t + 1) = rgl S L t ++ [.int .i64 (S t : Nat), .int .i64 (L t : Nat)] := by
  unfold rgl; rw [List.range_succ, List.flatMap_append]; simp
theorem info_tre : (Try.prog.info? 28).map (fun i => (i.zero, i.size, i.bytes)) = some (some (.agg #[.int .i64 0, .int .i64 0]), 2, 16) := by kernel_rfl
/-- Four regions lie in a row. -/
structure Four (w : World) (v : Value) (S L : Nat → Nat) : Prop where
  at_ : ∃ g cap, v = .slice (some ⟨g, 0, none⟩) 4 cap ∧ g < w.heap.size ∧ 4 ≤ cap ∧ ∀ j, j < 4 → w.cell? ⟨g, 2 * j, none⟩ = some (.int .i64 (S j : Nat)) ∧ w.cell? ⟨g, 2 * j + 1, none⟩ = some (.int .i64 (L j : Nat))
theorem Four.below {w w' : World} {v : Value} {S L : Nat → Nat} (h : Four w v S L) (hb : Below w.heap.size w w') : Four w' v S L := by
  obtain ⟨g, cap, hv, hg, hc, h4⟩ := h.at_
  exact ⟨g, cap, hv, Nat.lt_of_lt_of_le hg hb.size, hc, fun j hj => ⟨(hb.cell (p := ⟨g, _, none⟩) hg).trans (h4 j hj).1, (hb.cell (p := ⟨g, _, none⟩) hg).trans (h4 j hj).2⟩⟩
theorem own_alloc {w : World} {base size n : Nat} {e : TypeId} {v : Value} {xs : List Value} (h : w.ownsRow base e size v n xs) (o : Obj) : (w.alloc o).ownsRow base e size v n xs := by
  refine ⟨h.1, ?_⟩
  rcases h.2 with h' | ⟨g, cap, cur, a, b, c, d⟩
  · exact .inl h'
  · exact .inr ⟨g, cap, cur, a, b, (heap_alloc_old _ _ (Array.getElem?_eq_some_iff.1 c).1).trans c, d⟩
theorem own_lt {w : World} {base size n : Nat} {e : TypeId} {v : Value} {xs : List Value} (h : w.ownsRow base e size v n xs) : ∀ k, v.ownBlock = some k → base ≤ k := by
  intro k hk
  rcases h.2 with ⟨rfl, _⟩ | ⟨g, cap, cur, rfl, b, _⟩
  · simp [Value.ownBlock] at hk
  · simp [Value.ownBlock] at hk; omega
theorem two_newR (w : World) (x y : Value) (t : TypeId) : ∀ (j : Nat) (u : Value), [x, y][j]? = some u → (w.alloc (.cells #[x, y] t)).cell? ((⟨w.heap.size, 0, none⟩ : Addr).add j) = some u := by
  intro j u hj
  rw [show ((⟨w.heap.size, 0, none⟩ : Addr).add j) = ⟨w.heap.size, j, none⟩ from by unfold Addr.add; split <;> simp_all, cell_of_row _ _ _ _ _ _ (heap_alloc_new w _)]
  match j, hj with
  | 0, hj => exact hj
  | 1, hj => exact hj
  | j + 2, hj => simp at hj
theorem two_oneR (x y : Int) : ∀ u ∈ [Value.int .i64 x, Value.int .i64 y], u.oneCell' = true := by
  intro u hu
  simp at hu
  rcases hu with rfl | rfl <;> rfl
theorem rgl_len (S L : Nat → Nat) : ∀ n, (rgl S L n).length = 2 * n
  | 0 => rfl
  | n + 1 => by rw [rgl_succ, List.length_append, rgl_len S L n]; simp; omega
theorem rgl_at (S L : Nat → Nat) : ∀ n j, j < n → (rgl S L n)[2 * j]? = some (.int .i64 (S j : Nat)) ∧ (rgl S L n)[2 * j + 1]? = some (.int .i64 (L j : Nat))
  | 0, j, h => by omega
  | n + 1, j, h => by
    have hl := rgl_len S L n
    rw [rgl_succ]
    by_cases hj : j < n
    · obtain ⟨h1, h2⟩ := rgl_at S L n j hj
      rw [List.getElem?_append_left (by omega), List.getElem?_append_left (by omega)]
      exact ⟨h1, h2⟩
    · obtain rfl : j = n := by omega
      rw [List.getElem?_append_right (by omega), List.getElem?_append_right (by omega), hl, Nat.sub_self, show 2 * j + 1 - 2 * j = 1 by omega]
      exact ⟨rfl, rfl⟩
theorem four_of {w : World} {base : Nat} {v : Value} {S L : Nat → Nat} (h : w.ownsRow base 28 2 v 4 (rgl S L 4)) (hn : v ≠ .slice none 0 0) : Four w v S L := by
  rcases h.2 with ⟨rfl, _⟩ | ⟨g, cap, cur, rfl, hb, hg, hc, _, hsz, ht⟩
  · exact absurd rfl hn
  · refine ⟨g, cap, rfl, (Array.getElem?_eq_some_iff.1 hg).1, hc, fun j hj => ?_⟩
    obtain ⟨h1, h2⟩ := rgl_at S L 4 j hj
    rw [← ht, List.getElem?_take, if_pos (by omega)] at h1 h2
    rw [cell_of_row _ _ _ _ _ _ hg, cell_of_row _ _ _ _ _ _ hg]
    exact ⟨by simpa using h1, by simpa using h2⟩
set_option maxRecDepth 100000 in
set_option maxHeartbeats 2000000 in
theorem regions_any (S L : Nat → Nat) (hS0 : S 0 = 0) (hS : ∀ j, S (j + 1) = S j + L j) (hb : ∀ j, j ≤ 4 → S j ≤ 100000) (g0 c0 : Nat) (w : World) (hg : g0 < w.heap.size) (hc : ∀ j, j < 4 → w.cell? ⟨g0, j, none⟩ = some (.int .i64 (L j : Nat))) :
    Calls Try.prog 39 #[.slice (some ⟨g0, 0, none⟩) 4 c0] w fun e w' => ∃ v, e = .returned v ∧ Four w' v S L ∧ Below w.heap.size w w' := by
  obtain ⟨i0, hi0, hz0, hsz0, hby0⟩ := info_parts info_tre
  have HC := Box.mk hc; have HS := Box.mk hS; have HB := Box.mk hb; have HG := Box.mk hg
  have o0 : Box (w.ownsRow w.heap.size 28 2 (.slice none 0 0) 0 (rgl S L 0)) := ⟨World.ownsRow_nil _ _ _ _⟩
  clear hc hS hb hg
  go_enter Try.func39, Try.ntmps39
  go_wp2_with fail
  go_loopw [3, 4, 9] (fun v f i wr => ∃ t : Nat, t ≤ 4 ∧ i = .int .i64 t ∧ f = .int .i64 (S t : Nat) ∧ wr.ownsRow w.heap.size 28 2 v t (rgl S L t) ∧ (t ≠ 0 → v ≠ .slice none 0 0) ∧ Below w.heap.size w wr ∧ w.heap.size ≤ wr.heap.size) (fun _ _ i _ => 4 - (intOf i).toNat)
  case atStart => exact ⟨0, by omega, rfl, by rw [hS0]; rfl, o0.out, by omega, Below.refl _ _, Nat.le_refl _⟩
  case round =>
    clear o0
    obtain ⟨t, ht, rfl, rfl, hown, hne, hbel, hsz⟩ := hrel
    by_cases hlt : t < 4
    · have htI : (t : Int) < 4 := by omega
      have hcl : wr.cell? ⟨g0, t, none⟩ = some (.int .i64 (L t : Nat)) := (hbel.cell (p := ⟨g0, t, none⟩) HG.out).trans (HC.out t hlt)
      have hs1 := HS.out t
      have hb1 := HB.out (t + 1) (by omega)
      have hw : IntKind.i64.wrap ((S t : Int) + (L t : Int)) = (S (t + 1) : Nat) := by rw [IntKind.wrap_i64, hs1]; rw [hs1] at hb1; omega
      have HR := Box.mk (rgl_succ S L t)
      have HOWN := Box.mk hown; have HBL := Box.mk hbel; have HSZ := Box.mk hsz
      clear hs1 hb1 hown hbel hsz hne
      go_wp2_with (at_builtin; refine wpList_append_own _ rfl (.tmp 13) (.tmp 17) 22 rfl w.heap.size 28 i0 _ 2 16 Try.underlying22 hi0 hz0 hsz0 hby0 rfl (by decide) u3 t (rgl S L t) rfl (own_alloc HOWN.out _) ⟨wr.heap.size, 0, none⟩ 1 1 [.int .i64 (S t : Nat), .int .i64 (L t : Nat)] rfl rfl (two_newR wr _ _ _) (two_oneR _ _) (by unfold maxLen; omega) (by omega) (by have := HSZ.out; simp; omega) ?_)
      intro v' w' o' gr' ne'
      have O2 : Box (w'.ownsRow w.heap.size 28 2 v' (t + 1) (rgl S L (t + 1))) := ⟨by rw [HR.out]; exact o'⟩
      have NE2 : Box (v' ≠ .slice none 0 0) := ⟨ne'⟩
      have B2 := Box.mk ((HBL.out.alloc HSZ.out _).grown gr' (by have := HSZ.out; simp; omega) (own_lt HOWN.out))
      have S2 : Box (w.heap.size ≤ w'.heap.size) := ⟨Nat.le_trans (by have := HSZ.out; simp; omega) gr'.size⟩
      clear o' gr' ne'
      go_wp2_with fail
      exact ⟨⟨t + 1, by omega, by go_num, rfl, O2.out, fun _ => NE2.out, B2.out, S2.out⟩, by simp [intOf]; omega⟩
    · obtain rfl : t = 4 := by omega
      have hfour := four_of hown (hne (by omega))
      have H4 := Box.mk hfour; have HBL := Box.mk hbel
      clear hown hne hbel hsz hlt ht
      go_wp2_with fail
      go_ret
      exact ⟨_, rfl, H4.out, HBL.out⟩
/-- The parts' lengths, and where each begins. -/
def plL (n j : Nat) : Nat := let f := (n - 2) / 3; let s := (n - 2 - f) / 2; if j = 0 then 2 else if j = 1 then f else if j < 4 then s else 0
def plS (n : Nat) : Nat → Nat
  | 0 => 0
  | j + 1 => plS n j + plL n j
theorem plS_le (n : Nat) (h2 : n ≤ 256) : ∀ j, j ≤ 4 → plS n j ≤ 1024
  | 0, _ => by simp [plS]
  | j + 1, h => by
    have h1 : ∀ j, plL n j ≤ 256 := fun j => by unfold plL; simp only; (repeat' split) <;> omega
    have : ∀ j, plS n j ≤ 256 * j := fun j => by
      induction j with
      | zero => simp [plS]
      | succ j ih => rw [plS]; have := h1 j; omega
    have := this (j + 1); omega
set_option maxHeartbeats 1000000 in
theorem plan_yes (n : Nat) (h1 : 32 ≤ n) (h2 : n ≤ 256) (w : World) :
    Calls Try.prog 8 #[.int .i64 (n : Nat)] w fun e w' => ∃ v, e = .returned (.tuple #[v, .int .i64 0]) ∧ Four w' v (plS n) (plL n) ∧ Below w.heap.size w w' := by
  have g1 : decide ((n : Int) < 32) = false := by rw [decide_eq_false_iff_not]; omega
  have g2 : decide (256 < (n : Int)) = false := by rw [decide_eq_false_iff_not]; omega
  obtain ⟨m, hm⟩ : ∃ m, m = n - 2 := ⟨_, rfl⟩
  have w1 : IntKind.i64.wrap ((n : Int) - 2) = (m : Int) := by rw [IntKind.wrap_i64]; omega
  obtain ⟨f, hf⟩ : ∃ f, f = m / 3 := ⟨_, rfl⟩
  have d1 : (m : Int).tdiv 3 = (f : Int) := by rw [Int.tdiv_eq_ediv_of_nonneg (by omega)]; omega
  obtain ⟨r, hr⟩ : ∃ r, r = m - f := ⟨_, rfl⟩
  have w2 : IntKind.i64.wrap ((m : Int) - (f : Int)) = (r : Int) := by rw [IntKind.wrap_i64]; omega
  obtain ⟨s, hs⟩ : ∃ s, s = r / 2 := ⟨_, rfl⟩
  have d2 : (r : Int).tdiv 2 = (s : Int) := by rw [Int.tdiv_eq_ediv_of_nonneg (by omega)]; omega
  have w3 : IntKind.i64.wrap (f : Int) = (f : Int) := by rw [IntKind.wrap_i64]; omega
  have w4 : IntKind.i64.wrap (s : Int) = (s : Int) := by rw [IntKind.wrap_i64]; omega
  have RG := Box.mk (fun g0 c0 w hg hc => regions_any (plS n) (plL n) rfl (fun _ => rfl) (fun j hj => by have := plS_le n h2 j hj; omega) g0 c0 w hg hc)
  have HC : Box (∀ j, j < 4 → (w.alloc (.cells #[.int .i64 2, .int .i64 (f : Nat), .int .i64 (s : Nat), .int .i64 (s : Nat)] 3)).cell? ⟨w.heap.size, j, none⟩ = some (.int .i64 (plL n j : Nat))) := ⟨fun j hj => by
    rw [cell_of_row _ _ _ _ _ _ (heap_alloc_new w _)]
    have e1 : (n - 2) / 3 = f := by rw [hf, hm]
    have e2 : (n - 2 - f) / 2 = s := by rw [hs, hr, hm]
    unfold plL
    rw [e1]
    simp only
    rw [e2]
    match j, hj with
    | 0, _ => rfl
    | 1, _ => rfl
    | 2, _ => rfl
    | 3, _ => rfl⟩
  clear hm hf hr hs h1 h2
  go_enter Try.func8, Try.ntmps8
  go_wp2_with fail
  refine (RG.out _ _ _ (by simp) HC.out).mono ?_
  rintro e w1 ⟨v, rfl, h4, hb⟩
  have H4 := Box.mk h4; have HB := Box.mk (((Below.refl w.heap.size w).alloc (Nat.le_refl _) (.cells #[.int .i64 2, .int .i64 (f : Nat), .int .i64 (s : Nat), .int .i64 (s : Nat)] 3)).trans (hb.mono (by simp)))
  clear h4 hb
  go_wp2
  go_ret2
  exact ⟨v, rfl, H4.out, HB.out⟩
theorem plan_no (n : Int) (h : n < 32 ∨ 256 < n) (w : World) :
    Calls Try.prog 8 #[.int .i64 n] w fun e w' => e = .returned (.tuple #[.slice none 0 0, .int .i64 120]) ∧ w = w' := by
  by_cases g : n < 32
  · have g1 : decide (n < 32) = true := by simpa using g
    clear h g
    go_enter Try.func8, Try.ntmps8
    go_wp2
    go_ret2
    exact ⟨rfl, rfl⟩
  · have g1 : decide (n < 32) = false := by simpa using g
    have g2 : decide (256 < n) = true := by rw [decide_eq_true_eq]; omega
    clear h g
    go_enter Try.func8, Try.ntmps8
    go_wp2
    go_ret2
    exact ⟨rfl, rfl⟩
theorem rplan_no (n : Int) (h : n < 32 ∨ 256 < n) (w : World) :
    Calls Try.prog 9 #[.int .i64 n] w fun e w' => e = .returned (.tuple #[.slice none 0 0, .int .i64 120]) ∧ w = w' := by
  by_cases g : n < 32
  · have g1 : decide (n < 32) = true := by simpa using g
    clear h g
    go_enter Try.func9, Try.ntmps9
    go_wp2
    go_ret2
    exact ⟨rfl, rfl⟩
  · have g1 : decide (n < 32) = false := by simpa using g
    have g2 : decide (256 < n) = true := by rw [decide_eq_true_eq]; omega
    clear h g
    go_enter Try.func9, Try.ntmps9
    go_wp2
    go_ret2
    exact ⟨rfl, rfl⟩
set_option maxHeartbeats 1000000 in
theorem rplan_yes (n : Nat) (h1 : 32 ≤ n) (h2 : n ≤ 256) (w : World) :
    Calls Try.prog 9 #[.int .i64 (n : Nat)] w fun e w' => ∃ v, e = .returned (.tuple #[v, .int .i64 0]) ∧ Four w' v (plS n) (plL n) ∧ Below w.heap.size w w' := by
  have g1 : decide ((n : Int) < 32) = false := by rw [decide_eq_false_iff_not]; omega
  have g2 : decide (256 < (n : Int)) = false := by rw [decide_eq_false_iff_not]; omega
  obtain ⟨m, hm⟩ : ∃ m, m = n - 2 := ⟨_, rfl⟩
  have w1 : IntKind.i64.wrap ((n : Int) - 2) = (m : Int) := by rw [IntKind.wrap_i64]; omega
  obtain ⟨f, hf⟩ : ∃ f, f = m / 3 := ⟨_, rfl⟩
  have d1 : (m : Int).tdiv 3 = (f : Int) := by rw [Int.tdiv_eq_ediv_of_nonneg (by omega)]; omega
  obtain ⟨r, hr⟩ : ∃ r, r = m - f := ⟨_, rfl⟩
  have w2 : IntKind.i64.wrap ((m : Int) - (f : Int)) = (r : Int) := by rw [IntKind.wrap_i64]; omega
  obtain ⟨s, hs⟩ : ∃ s, s = r / 2 := ⟨_, rfl⟩
  have d2 : (r : Int).tdiv 2 = (s : Int) := by rw [Int.tdiv_eq_ediv_of_nonneg (by omega)]; omega
  have w3 : IntKind.i64.wrap (f : Int) = (f : Int) := by rw [IntKind.wrap_i64]; omega
  have w4 : IntKind.i64.wrap (s : Int) = (s : Int) := by rw [IntKind.wrap_i64]; omega
  obtain ⟨f2, hf2⟩ : ∃ x, x = 2 + f := ⟨_, rfl⟩
  obtain ⟨f3, hf3⟩ : ∃ x, x = f2 + s := ⟨_, rfl⟩
  have w5 : IntKind.i64.wrap (2 + (f : Int)) = (f2 : Int) := by rw [IntKind.wrap_i64]; omega
  have w6 : IntKind.i64.wrap ((f2 : Int) + (s : Int)) = (f3 : Int) := by rw [IntKind.wrap_i64]; omega
  have HC : Box (Four (w.alloc (.cells #[.int .i64 0, .int .i64 2, .int .i64 2, .int .i64 (f : Nat), .int .i64 (f2 : Nat), .int .i64 (s : Nat), .int .i64 (f3 : Nat), .int .i64 (s : Nat)] 28)) (.slice (some ⟨w.heap.size, 0, none⟩) 4 4) (plS n) (plL n)) := ⟨⟨w.heap.size, 4, rfl, by simp, by omega, fun j hj => by
    rw [cell_of_row _ _ _ _ _ _ (heap_alloc_new w _), cell_of_row _ _ _ _ _ _ (heap_alloc_new w _)]
    have e1 : (n - 2) / 3 = f := by rw [hf, hm]
    have e2 : (n - 2 - f) / 2 = s := by rw [hs, hr, hm]
    have l0 : plL n 0 = 2 := rfl
    have l1 : plL n 1 = f := by unfold plL; rw [e1]; rfl
    have l2 : plL n 2 = s := by unfold plL; rw [e1]; simp only; rw [e2]; rfl
    have l3 : plL n 3 = s := by unfold plL; rw [e1]; simp only; rw [e2]; rfl
    match j, hj with
    | 0, _ => exact ⟨rfl, rfl⟩
    | 1, _ => rw [l1]; exact ⟨rfl, rfl⟩
    | 2, _ => rw [l2, show plS n 2 = f2 by rw [plS, plS, l1, l0, plS, hf2]]; exact ⟨rfl, rfl⟩
    | 3, _ => rw [l3, show plS n 3 = f3 by rw [plS, plS, plS, l2, l1, l0, plS, hf3, hf2]]; exact ⟨rfl, rfl⟩⟩⟩
  clear hm hf hr hs h1 h2 hf2 hf3
  go_enter Try.func9, Try.ntmps9
  go_wp2
  go_ret2
  exact ⟨_, rfl, HC.out, (Below.refl _ _).alloc (Nat.le_refl _) _⟩
end Go.Proofs.Ytaeomiedmjedgaa
