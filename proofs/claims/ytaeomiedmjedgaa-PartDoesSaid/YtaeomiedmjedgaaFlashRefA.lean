/- The document's flash: what reads or writes its fields alone. -/
import Derived.Test.YtaeomiedmjedgaaFlashL
namespace Go.Proofs.Ytaeomiedmjedgaa
set_option linter.unusedVariables false
open Go Go.RowKit

set_option maxHeartbeats 1000000 in
theorem ron_any (p bb cb : Nat) (s : FS) (at_ n : Int) (w : World) (h : Fl 64 w p bb cb s) (hok : s.Ok) (ba : -9223372036854775808 ≤ at_ ∧ at_ ≤ 9223372036854775807) (bn : -9223372036854775808 ≤ n ∧ n ≤ 9223372036854775807) :
    Calls Try.prog 61 #[.pointer (some ⟨p, 0, none⟩), .int .i64 at_, .int .i64 n] w fun e w' => e = .returned (.bool (onB s.b.length at_ n)) ∧ w = w' := by
  obtain ⟨bcap, ccap, hb, hc, c0, c1, c2, c3, c4, c5, c6⟩ := h.cells
  have hlen := hok.len
  have hfew := hok.few
  have hl : (s.b.length : Int) ≤ 131072 := by omega
  clear c1 c2 c3 c4 c5 c6 hlen hfew hc hb
  generalize s.b.length = l at c0 hl ⊢
  by_cases h0 : 0 ≤ at_
  · have h0' : decide (0 ≤ at_) = true := by simpa using h0
    by_cases h1 : 0 ≤ n
    · have h1' : decide (0 ≤ n) = true := by simpa using h1
      by_cases h2 : at_ ≤ l
      · have h2' : decide (at_ ≤ (l : Int)) = true := by simpa using h2
        have E : Box (onB l at_ n = decide (n ≤ (l : Int) - at_)) := ⟨by unfold onB; rw [decide_eq_decide]; omega⟩
        go_enter Try.func61, Try.ntmps61
        go_wp2
        go_ret
        exact ⟨by rw [E.out]; rfl, rfl⟩
      · have h2' : decide (at_ ≤ (l : Int)) = false := by simpa using h2
        have E : Box (onB l at_ n = false) := ⟨by unfold onB; rw [decide_eq_false_iff_not]; omega⟩
        go_enter Try.func61, Try.ntmps61
        go_wp2
        go_ret
        exact ⟨by rw [E.out]; rfl, rfl⟩
    · have h1' : decide (0 ≤ n) = false := by simpa using h1
      have E : Box (onB l at_ n = false) := ⟨by unfold onB; rw [decide_eq_false_iff_not]; omega⟩
      go_enter Try.func61, Try.ntmps61
      go_wp2
      go_ret
      exact ⟨by rw [E.out]; rfl, rfl⟩
  · have h0' : decide (0 ≤ at_) = false := by simpa using h0
    have E : Box (onB l at_ n = false) := ⟨by unfold onB; rw [decide_eq_false_iff_not]; omega⟩
    go_enter Try.func61, Try.ntmps61
    go_wp2
    go_ret
    exact ⟨by rw [E.out]; rfl, rfl⟩

set_option maxHeartbeats 400000 in
theorem rrevive_any (p bb cb : Nat) (s : FS) (w : World) (h : Fl 64 w p bb cb s) :
    Calls Try.prog 32 #[.pointer (some ⟨p, 0, none⟩)] w fun e w' => e = .returned (.tuple #[]) ∧ Fl 64 w' p bb cb s.back ∧ Upd [p] w w' := by
  obtain ⟨bcap, ccap, hb, hc, c0, c1, c2, c3, c4, c5, c6⟩ := h.cells
  have f3 := h.free 3; have f6 := h.free 6
  have HF := Box.mk h
  clear c0 c1 c2 c4 c5 hb hc h
  go_enter Try.func32, Try.ntmps32
  go_wp2
  go_end0
  exact ⟨rfl, (HF.out.set6 false).set3 0, ((Upd.refl _ _).setCell (by simp) _).setCell (by simp) _⟩
set_option maxHeartbeats 1000000 in
theorem rarm_any (p bb cb : Nat) (s : FS) (n keep : Int) (mask : UInt8) (w : World) (h : Fl 64 w p bb cb s) (hk : -9223372036854775808 ≤ keep ∧ keep ≤ 9223372036854775807) :
    Calls Try.prog 31 #[.pointer (some ⟨p, 0, none⟩), .int .i64 n, .int .i64 keep, .int .u8 (mask.toNat : Int)] w fun e w' => e = .returned (.int .i64 (s.arm n keep mask).2) ∧ Fl 64 w' p bb cb (s.arm n keep mask).1 ∧ Upd [p] w w' := by
  obtain ⟨bcap, ccap, hb, hc, c0, c1, c2, c3, c4, c5, c6⟩ := h.cells
  have f3 := h.free 3; have f4 := h.free 4; have f5 := h.free 5
  have HF := Box.mk h
  clear c0 c1 c2 hb hc h
  by_cases hd : s.dead = true
  · have E : Box (s.arm n keep mask = (s, 2)) := ⟨by unfold FS.arm; rw [if_pos hd]⟩
    rw [hd] at c6; clear hd
    rw [E.out]
    go_enter Try.func31, Try.ntmps31
    go_wp2
    go_ret
    exact ⟨rfl, HF.out, Upd.refl _ _⟩
  · have hd' : s.dead = false := by simpa using hd
    by_cases hn : n < 0
    · have E : Box (s.arm n keep mask = (s, 1)) := ⟨by unfold FS.arm; rw [if_neg hd, if_pos hn]⟩
      rw [hd'] at c6; clear hd hd'
      rw [E.out]
      go_enter Try.func31, Try.ntmps31
      go_wp2
      go_ret
      exact ⟨rfl, HF.out, Upd.refl _ _⟩
    · have E : Box (s.arm n keep mask = ({ s with armed := n, keep := max 0 keep, mask := mask }, 0)) := ⟨by unfold FS.arm; rw [if_neg hd, if_neg hn]⟩
      rw [hd'] at c6; clear hd hd'
      rw [E.out]
      go_enter Try.func31, Try.ntmps31
      go_wp2
      · go_ret
        have hm : max 0 keep = 0 := by omega
        exact ⟨rfl, (((HF.out.set3 n).set4 0).set5 mask).to (by rw [hm]), (((Upd.refl _ _).setCell (by simp) _).setCell (by simp) _).setCell (by simp) _⟩
      · go_ret
        have hm : max 0 keep = keep := by omega
        exact ⟨rfl, (((HF.out.set3 n).set4 keep).set5 mask).to (by rw [hm]), (((Upd.refl _ _).setCell (by simp) _).setCell (by simp) _).setCell (by simp) _⟩
set_option maxHeartbeats 1000000 in
theorem rread_any (p bb cb : Nat) (s : FS) (at_ n : Int) (w : World) (h : Fl 64 w p bb cb s) (hok : s.Ok) (ba : -9223372036854775808 ≤ at_ ∧ at_ ≤ 9223372036854775807) (bn : -9223372036854775808 ≤ n ∧ n ≤ 9223372036854775807) :
    Calls Try.prog 51 #[.pointer (some ⟨p, 0, none⟩), .int .i64 at_, .int .i64 n] w fun e w' => e = .returned (if s.dead then .tuple #[.string ⟨#[]⟩, .int .i64 2] else if onB s.b.length at_ n then .tuple #[.string ⟨((s.b.drop at_.toNat).take n.toNat).toArray⟩, .int .i64 0] else .tuple #[.string ⟨#[]⟩, .int .i64 111]) ∧ w = w' := by
  have HF := Box.mk h
  obtain ⟨bcap, ccap, hb, hc, c0, c1, c2, c3, c4, c5, c6⟩ := h.cells
  have hby := Box.mk (fun j u hu => (h.byte j u hu).1)
  clear c1 c2 c3 c4 c5 hc h
  by_cases hd : s.dead = true
  · rw [if_pos hd]
    rw [hd] at c6; clear hd
    go_enter Try.func51, Try.ntmps51
    go_wp2
    go_ret2
    exact ⟨rfl, rfl⟩
  · rw [if_neg hd]
    have hd' : s.dead = false := by simpa using hd
    rw [hd'] at c6; clear hd hd'
    by_cases ho : onB s.b.length at_ n = true
    · rw [if_pos ho]
      have hon : 0 ≤ at_ ∧ 0 ≤ n ∧ at_ + n ≤ s.b.length := by unfold onB at ho; simpa using ho
      obtain ⟨A, rfl⟩ := Int.eq_ofNat_of_zero_le hon.1
      obtain ⟨N, rfl⟩ := Int.eq_ofNat_of_zero_le hon.2.1
      have hlb : (s.b.length : Int) ≤ 131072 := by have := hok.len; have := hok.few; omega
      have hln : ((s.b.drop A).take N).length = N := by simp; omega
      have hcv := run_bytes_at Try.prog w bb A (bcap - A) ((s.b.drop A).take N) 52 9 5 N hln Try.underlying52 Try.underlying5 Try.underlying9 (fun j u hu => by
        have hj : j < N := by have := (List.getElem?_eq_some_iff.1 hu).1; rw [hln] at this; exact this
        rw [List.getElem?_take, if_pos hj, List.getElem?_drop] at hu
        exact hby.out _ _ hu)
      have HO := Box.mk ho; clear ho hln hby
      have hbI : ((s.b.length : Nat) : Int) ≤ (bcap : Int) := by omega
      have hANI : (A : Int) + (N : Int) ≤ (bcap : Int) := by omega
      go_enter Try.func51, Try.ntmps51
      go_wp2_with fail
      refine (ron_any p bb cb s A N _ HF.out hok (by omega) (by omega)).mono ?_
      rintro e w1 ⟨rfl, rfl⟩
      rw [HO.out]
      have hcv2 : bcap = A → (convert 52 9 (.slice (some ⟨bb, 0, none⟩) N 0)).run Try.prog w = .ok (.string ⟨((s.b.drop A).take N).toArray⟩) w := fun e => by
        have hN : N = 0 := by omega
        subst hN
        have := run_bytes_at Try.prog w bb 0 0 [] 52 9 5 0 rfl Try.underlying52 Try.underlying5 Try.underlying9 (fun j u hu => by simp at hu)
        rw [this]; simp
      by_cases hcA : bcap = A
      · have hcv2 := hcv2 hcA
        go_wp2
        go_ret2
        exact ⟨rfl, rfl⟩
      · clear hcv2
        go_wp2
        go_ret2
        exact ⟨rfl, rfl⟩
    · rw [if_neg ho]
      have ho' : onB s.b.length at_ n = false := by simpa using ho
      have HO := Box.mk ho'; clear ho ho' hby
      go_enter Try.func51, Try.ntmps51
      go_wp2_with fail
      refine (ron_any p bb cb s at_ n _ HF.out hok ba bn).mono ?_
      rintro e w1 ⟨rfl, rfl⟩
      rw [HO.out]
      go_wp2
      go_ret2
      exact ⟨rfl, rfl⟩
set_option maxHeartbeats 1000000 in
theorem goes_any (p bb cb : Nat) (s : FS) (w : World) (h : Fl 64 w p bb cb s) (hok : s.Ok) (hd : s.dead = false) :
    Calls Try.prog 62 #[.pointer (some ⟨p, 0, none⟩)] w fun e w' => e = .returned (.bool s.goes) ∧ Fl 64 w' p bb cb s.step ∧ Upd [p] w w' := by
  obtain ⟨bcap, ccap, hb, hc, c0, c1, c2, c3, c4, c5, c6⟩ := h.cells
  have f2 := h.free 2; have f3 := h.free 3; have f6 := h.free 6
  have hkeep := hok.armed
  have HD := Box.mk hd
  rw [hd] at c6
  by_cases ha : s.armed = 0
  · have ha' : decide (0 < s.armed) = false := by simp; omega
    have HA := Box.mk ha; clear ha hd
    clear c0 c1 c4 c5
    go_enter Try.func62, Try.ntmps62
    go_wp2
    go_ret
    refine ⟨by simp [FS.goes, HA.out], (h.set2 _).to (by cases s; have := HA.out; simp_all [FS.step]), (Upd.refl _ _).setCell (by simp) _⟩
  · have ha' : decide (0 < s.armed) = true := by simp; omega
    have HA := Box.mk ha; clear ha hd
    clear c0 c1 c4 c5
    go_enter Try.func62, Try.ntmps62
    go_wp2
    go_ret
    refine ⟨?_, (((h.set2 _).set3 _).set6 _).to (by cases s; have := HA.out; simp_all [FS.step]; rfl), (((Upd.refl _ _).setCell (by simp) _).setCell (by simp) _).setCell (by simp) _⟩
    simp only [FS.goes, if_neg HA.out]
    rfl
end Go.Proofs.Ytaeomiedmjedgaa
