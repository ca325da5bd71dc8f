/- The document of sha2: the first primes. -/
import Derived.Test.YtbjapmhfnegmeaaBigE
import Derived.Test.YtbjapmhfnegmeaaOwn
namespace Go.Proofs.Ytbjapmhfnegmeaa.Big
set_option linter.unusedVariables false
open Go Go.RowKit
open Sha (ps)

/-- The primes below n. -/
@[irreducible] def pb (n : Nat) : List Nat := ps.filter (· < n)
theorem pb_zero : pb 2 = [] := by unfold pb; decide +kernel
theorem pb_step : ∀ n, n < 410 → 2 ≤ n → pb (n + 1) = if (pb n).all (fun p => n % p != 0) then pb n ++ [n] else pb n := by unfold pb; decide +kernel
theorem pb_many : ∀ n, n < 411 → (pb n).length < 80 → n < 410 := by unfold pb; decide +kernel
theorem pb_take : ∀ n, n < 411 → pb n = ps.take (pb n).length := by unfold pb; decide +kernel
theorem pb_pos : ∀ n, n < 411 → ∀ p ∈ pb n, 0 < p := by
  intro n _ p hp
  unfold pb at hp
  have := (List.mem_filter.1 hp).1
  exact (by decide +kernel : ∀ p ∈ ps, 0 < p) p this
theorem iv_at (L : List Nat) (j : Nat) (h : j < L.length) : (L.map iv)[j]? = some (.int .i64 (L.getD j 0 : Nat)) := by
  rw [List.getElem?_map, List.getElem?_eq_getElem h, List.getD_eq_getElem?_getD, List.getElem?_eq_getElem h]; rfl
theorem all_step (L : List Nat) (f : Nat → Bool) (j : Nat) (h : j < L.length) : (L.take (j + 1)).all f = ((L.take j).all f && f (L.getD j 0)) := by
  rw [List.take_succ_eq_append_getElem h, List.all_append, List.getD_eq_getElem?_getD, List.getElem?_eq_getElem h]; simp

theorem bne_cast (r : Nat) : (r != 0) = ((r : Int) != 0) := by
  rcases Nat.eq_zero_or_pos r with h | h
  · subst h; rfl
  · rw [bne_iff_ne.2 (show r ≠ 0 by omega), bne_iff_ne.2 (show (r : Int) ≠ 0 by omega)]

set_option maxRecDepth 100000 in
set_option maxHeartbeats 2000000 in
theorem primes_any (many : Nat) (hm : many ≤ 80) (w : World) :
    Calls Try.prog 23 #[.int .i64 (many : Nat)] w fun e w' => ∃ v, e = .returned v ∧ Own w' w.heap.size 3 v many ((ps.take many).map iv) ∧ v ≠ .slice none 0 0 ∧ Below w.heap.size w w' := by
  go_enter Try.func23, Try.ntmps23
  go_wp2_with fail
  have o0 : Box (Own (w.alloc (.cells #[] 3)) w.heap.size 3 (.slice (some ⟨w.heap.size, 0, none⟩) 0 0) 0 []) := ⟨Own.made w 3 #[] 0 w.heap.size (Nat.le_refl _) (by unfold maxLen; omega) rfl⟩
  have b0 : Box (Below w.heap.size w (w.alloc (.cells #[] 3))) := ⟨(Below.refl _ _).alloc (Nat.le_refl _) _⟩
  have s0 : Box (w.heap.size ≤ (w.alloc (.cells #[] 3)).heap.size) := ⟨by simp⟩
  go_loopw [3, 4] (fun v i wr => ∃ n : Nat, 2 ≤ n ∧ n ≤ 410 ∧ i = .int .i64 n ∧ Own wr w.heap.size 3 v (pb n).length ((pb n).map iv) ∧ v ≠ .slice none 0 0 ∧ (pb n).length ≤ many ∧ Below w.heap.size w wr ∧ w.heap.size ≤ wr.heap.size) (fun _ i _ => 410 - (intOf i).toNat)
  case atStart => exact ⟨2, by omega, by omega, rfl, by rw [pb_zero]; exact o0.out, by simp, by rw [pb_zero]; simp, b0.out, s0.out⟩
  case round =>
    clear o0 b0 s0
    obtain ⟨n, hn2, hn, rfl, hown, hne, hlm, hbel, hsz⟩ := hrel
    have hpm := pb_many n (by omega)
    obtain ⟨g, cap, rfl, hBg, hcell, hglt, htc⟩ := hown.cells hne
    by_cases hlt : (pb n).length < many
    · have hn3 : n < 410 := hpm (by omega)
      have hst := pb_step n hn3 hn2
      have hpos := pb_pos n (by omega)
      generalize pb n = L at hown hlm hcell hlt hst hpos
      obtain ⟨c, hc⟩ : ∃ c, c = L.length := ⟨_, rfl⟩
      rw [← hc] at hown hlm hlt ⊢
      have OW := Box.mk hown; have HB := Box.mk hbel; have HSZ := Box.mk hsz; have HST := Box.mk hst; have HPOS := Box.mk hpos; have HC := Box.mk hc; have HCELL := Box.mk hcell
      have hcI : (c : Int) < (many : Int) := by omega
      clear hown hbel hst hpos hc hcell hpm hlt hne hBg hglt htc
      go_wp2_with fail
      obtain ⟨wo, rfl⟩ : ∃ wo : World, wo = wr := ⟨_, rfl⟩
      go_loop [5, 6] (fun x i => ∃ j : Nat, j ≤ c ∧ i = .int .i64 j ∧ x = .bool ((L.take j).all (fun p => n % p != 0))) (fun _ i => c - (intOf i).toNat)
      case atStart => exact ⟨0, by omega, rfl, by simp⟩
      case round =>
        obtain ⟨j, hj, rfl, rfl⟩ := hrel
        by_cases hjl : j < c
        · have hjI : (j : Int) < (c : Int) := by omega
          have hL : j < L.length := by have := HC.out; omega
          have has := all_step L (fun p => n % p != 0) j hL
          have hcj := HCELL.out j _ (iv_at L j hL)
          have hpp : 0 < L.getD j 0 := HPOS.out _ (by rw [List.getD_eq_getElem?_getD, List.getElem?_eq_getElem hL]; simp)
          generalize L.getD j 0 = p at has hcj hpp
          have hp0 : ¬ p = 0 := by omega
          obtain ⟨r, hr⟩ : ∃ r, r = n % p := ⟨_, rfl⟩
          have hrI : (n : Int).tmod (p : Int) = (r : Int) := by rw [hr]; exact rfl
          have hrI2 : (n : Int) % (p : Int) = (r : Int) := by rw [hr]; simp
          rw [← hr] at has
          have HAS := Box.mk has
          clear has hr hL hpp
          generalize (L.take j).all (fun p => n % p != 0) = bb at HAS ⊢
          cases bb
          · clear hcj hp0 hrI hrI2
            have HAS : Box ((L.take (j + 1)).all (fun p => n % p != 0) = false) := ⟨by rw [HAS.out]; simp⟩
            go_wp2_with fail
            exact ⟨⟨j + 1, by omega, by go_num, by rw [HAS.out]⟩, by simp [intOf]; omega⟩
          · have HAS : Box ((L.take (j + 1)).all (fun p => n % p != 0) = ((r : Int) != 0)) := ⟨by rw [HAS.out, Bool.true_and]; exact bne_cast r⟩
            go_wp2_with fail
            exact ⟨⟨j + 1, by omega, by go_num, by rw [HAS.out]⟩, by simp [intOf]; omega⟩
        · obtain rfl : j = c := by omega
          have HST : Box (pb (n + 1) = if L.all (fun p => n % p != 0) then L ++ [n] else L) := HST
          rw [List.take_of_length_le (by have := HC.out; omega)]
          generalize L.all (fun p => n % p != 0) = bb at HST ⊢
          clear hjl
          cases bb
          · have HSTa : Box (pb (n + 1) = L) := ⟨by rw [HST.out]; rfl⟩
            clear HST
            go_wp2_with fail
            exact ⟨⟨n + 1, by omega, by omega, by go_num, by rw [HSTa.out, ← HC.out]; exact OW.out, by simp, by rw [HSTa.out, ← HC.out]; exact hlm, HB.out, HSZ.out⟩, by simp [intOf]; omega⟩
          · have HSTa : Box (pb (n + 1) = L ++ [n]) := ⟨by rw [HST.out]; rfl⟩
            clear HST
            have HLEN : Box ((L ++ [n]).length = j + 1) := ⟨by rw [List.length_append, ← HC.out]; rfl⟩
            go_wp2_with (at_builtin; refine wpList_app1 (w0 := w) rfl (.tmp 31) (.tmp 33) 58 rfl w.heap.size 3 (.int .i64 0) 8 Try.underlying58 (by kernel_rfl) rfl (.slice (some ⟨g, 0, none⟩) j cap) j (L.map iv) rfl (OW.out.alloc _) (HB.out.alloc HSZ.out _) (by have := HSZ.out; simp; omega) wo.heap.size (.int .i64 (n : Nat)) rfl (cell_new _ _ _) rfl (by omega) (by omega) ?_)
            intro v' w' o' b' s' gr' ne'
            have ON : Box (Own w' w.heap.size 3 v' (j + 1) ((L ++ [n]).map iv)) := ⟨by rw [List.map_append]; exact o'⟩
            have BN := Box.mk b'; have SN := Box.mk s'; have NN := Box.mk ne'
            clear o' b' s' gr' ne'
            go_wp2_with fail
            exact ⟨⟨n + 1, by omega, by omega, by go_num, by rw [HSTa.out, HLEN.out]; exact ON.out, NN.out, by rw [HSTa.out, HLEN.out]; omega, BN.out, SN.out⟩, by simp [intOf]; omega⟩
    · have he : (pb n).length = many := by omega
      have hpt := pb_take n (by omega)
      rw [he] at hown hpt ⊢
      rw [hpt] at hown
      have OW := Box.mk hown; have HB := Box.mk hbel
      clear hown hbel hcell hpm hlt hne hBg hglt htc hpt he hlm
      go_wp2_with fail
      go_ret
      exact ⟨_, rfl, OW.out, by simp, HB.out⟩
end Go.Proofs.Ytbjapmhfnegmeaa.Big
