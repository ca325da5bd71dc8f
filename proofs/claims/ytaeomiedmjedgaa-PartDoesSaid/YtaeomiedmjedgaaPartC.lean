/- A part of a flash: New, Write. -/
import Derived.Test.YtaeomiedmjedgaaPartB
namespace Go.Proofs.Ytaeomiedmjedgaa
set_option linter.unusedVariables false
open Go Go.RowKit

/-- Write through a part: piece by piece, each in one page. -/
def FS.pw : Nat → FS → Int → List UInt8 → FS × Int
  | 0, s, _, _ => (s, 0)
  | k + 1, s, A, l => if l = [] then (s, 0) else
      let n := min l.length (64 - (A % 64).toNat)
      if (s.program A (l.take n)).2 ≠ 0 then s.program A (l.take n) else FS.pw k (s.program A (l.take n)).1 (A + n) (l.drop n)
def FS.pwrite (s : FS) (F B : Int) (at_ : Int) (l : List UInt8) : FS × Int := if inB B at_ l.length then FS.pw l.length s (512 * F + at_) l else (s, 121)
theorem FS.pw_nil (k : Nat) (s : FS) (A : Int) : FS.pw k s A [] = (s, 0) := by cases k <;> simp [FS.pw]
theorem FS.pw_step (k : Nat) (s : FS) (A : Int) (l : List UInt8) (h : l ≠ []) : FS.pw (k + 1) s A l =
    if (s.program A (l.take (min l.length (64 - (A % 64).toNat)))).2 ≠ 0 then s.program A (l.take (min l.length (64 - (A % 64).toNat)))
    else FS.pw k (s.program A (l.take (min l.length (64 - (A % 64).toNat)))).1 (A + (min l.length (64 - (A % 64).toNat) : Nat)) (l.drop (min l.length (64 - (A % 64).toNat))) := by
  rw [FS.pw, if_neg h]
theorem FS.program_n (s : FS) (A : Int) (l : List UInt8) : (s.program A l).1.n.length = s.n.length := by
  unfold FS.program
  (repeat' split) <;> rfl
set_option maxHeartbeats 2000000 in
theorem pwrite_any (q p bb cb : Nat) (F B : Int) (s : FS) (at_ : Int) (str : ByteArray) (w : World) (hf : Fl 75 w p bb cb s) (hok : s.Ok) (h : Pa w q p F B) (hi : In s.n.length F B) (hqb : q ≠ bb) (hqp : q ≠ p) (ba : -9223372036854775808 ≤ at_ ∧ at_ ≤ 9223372036854775807) (hs : str.size ≤ 9223372036854775807) :
    Calls Try.prog 13 #[.pointer (some ⟨q, 0, none⟩), .int .i64 at_, .string str] w fun e w' => e = .returned (.int .i64 (s.pwrite F B at_ str.data.toList).2) ∧ Fl 75 w' p bb cb (s.pwrite F B at_ str.data.toList).1 ∧ Upd [p, bb] w w' := by
  have PL := Box.mk (place_any q p F B _ at_ str.size w h hi ba (by omega))
  have hlen : str.data.toList.length = str.size := by simp
  by_cases hb : inB B at_ str.size = true
  · have hin := hb
    rw [inB_iff] at hin
    rw [hb] at PL
    have E : s.pwrite F B at_ str.data.toList = FS.pw str.size s (512 * F + at_) str.data.toList := by unfold FS.pwrite; rw [hlen, hb, if_pos rfl]
    rw [E]
    obtain ⟨R, hR⟩ : ∃ R, R = FS.pw str.size s (512 * F + at_) str.data.toList := ⟨_, rfl⟩
    rw [← hR]
    have HR := Box.mk hR; have HF := Box.mk hf; have HP := Box.mk h; have HOK := Box.mk hok; have HI := Box.mk hi; have HIN := Box.mk hin
    clear E hb hlen hR hf h hok hi hin hs ba
    go_enter Try.func13, Try.ntmps13
    go_wp2_with fail
    refine PL.out.mono ?_
    rintro e w1 ⟨⟨x, rfl, hx⟩, rfl⟩
    obtain rfl := hx (by simp)
    clear PL
    go_wp2_with fail
    have HU0 : Box (Upd [p, bb] w w) := ⟨Upd.refl _ _⟩
    have hk0 := Box.mk (show In s.n.length F B from HI.out)
    obtain ⟨w0, hw0⟩ : ∃ w0 : World, w0 = w := ⟨_, rfl⟩
    go_loopw [2, 7] (fun x y wr => ∃ (t : ByteArray) (s' : FS) (A : Int) (k : Nat), x = .string t ∧ y = .int .i64 A ∧ t.size ≤ k ∧ FS.pw k s' A t.data.toList = R ∧ Fl 75 wr p bb cb s' ∧ s'.Ok ∧ s'.n.length = s.n.length ∧ 0 ≤ A ∧ A + t.size ≤ 131072 ∧ Upd [p, bb] w wr) (fun x _ _ => match x with | .string t => t.size | _ => 0)
    case atStart => exact ⟨str, s, _, str.size, rfl, rfl, Nat.le_refl _, HR.out.symm, HF.out, HOK.out, rfl, by have := HI.out.lo; have := HIN.out; omega, by have := HI.out.hi; have := HI.out.few; have := HIN.out; omega, Upd.refl _ _⟩
    case round =>
      clear HF HOK HR HU0 hk0
      obtain ⟨t, s', A, k, rfl, rfl, hk, hpw, hf, hok, hn, hA, hA2, hu⟩ := hrel
      have HF := Box.mk hf; have HU := Box.mk hu; have HOK := Box.mk hok
      obtain ⟨c0, _, _⟩ := (HP.out.upd hu (by simp [hqp, hqb])).cells
      clear hf hu hok
      by_cases ht : t.size = 0
      · have hte : t.toList.isEmpty = true := by
          have : t.toList = t.data.toList := ByteArray.toList_eq t
          rw [this, List.isEmpty_iff_length_eq_zero]; simpa using ht
        have htl : t.data.toList = [] := List.eq_nil_of_length_eq_zero (by simpa using ht)
        rw [htl, FS.pw_nil] at hpw
        have HR := Box.mk hpw
        clear hpw htl ht hn hk hA hA2 c0
        go_wp2_with fail
        go_ret
        obtain ⟨rfl⟩ := HR
        exact ⟨rfl, HF.out, HU.out⟩
      · have hte : t.toList.isEmpty = false := by
          have : t.toList = t.data.toList := ByteArray.toList_eq t
          rw [this, Bool.eq_false_iff, ne_eq, List.isEmpty_iff_length_eq_zero]; simpa using ht
        obtain ⟨k', rfl⟩ : ∃ k', k = k' + 1 := ⟨k - 1, by omega⟩
        obtain ⟨m, hm⟩ : ∃ m, m = min t.size (64 - (A % 64).toNat) := ⟨_, rfl⟩
        have hll : t.data.toList.length = t.size := by simp
        have hm1 : 1 ≤ m ∧ m ≤ t.size := by omega
        rw [FS.pw_step _ _ _ _ (by intro h; rw [h] at hll; simp at hll; omega), hll, ← hm] at hpw
        have hul : (t.extract 0 m).data.toList = t.data.toList.take m := by simp [ByteArray.data_extract, List.extract_eq_take_drop]
        have hvl : (t.extract m t.size).data.toList = t.data.toList.drop m := by
          rw [ByteArray.data_extract, Array.toList_extract, List.extract_eq_take_drop, List.take_of_length_le (by rw [List.length_drop, hll]; exact Nat.le_refl _)]
        rw [← hul, ← hvl] at hpw
        have hus : (t.extract 0 m).size = m := by rw [ByteArray.size_extract]; omega
        have hvs : (t.extract m t.size).size = t.size - m := by rw [ByteArray.size_extract]; omega
        have PR := Box.mk (fun w h => program_any p bb cb s' A (t.extract 0 m) w h HOK.out (by omega) (by omega))
        have OK2 := Box.mk (FS.program_ok HOK.out A (t.extract 0 m).data.toList)
        have N2 := Box.mk (FS.program_n s' A (t.extract 0 m).data.toList)
        have HMM := Box.mk hm
        have HVS := Box.mk hvs
        generalize s'.program A (t.extract 0 m).data.toList = r at PR OK2 N2 hpw
        clear hul hvl hus hvs hm
        go_upto_region 5 with (fail)
        go_cut [9] (fun v wx => v = .int .i64 (m : Nat) ∧ wr = wx)
        case first =>
          by_cases hc : (t.size : Int) ≤ 64 - A % 64
          · have HE := Box.mk (show m = t.size by have := HMM.out; omega)
            go_wp2_with fail
            go_meet
            exact ⟨by rw [HE.out], rfl⟩
          · have HE := Box.mk (show 64 - A % 64 = (m : Int) by have := HMM.out; omega)
            go_wp2_with fail
            go_meet
            exact ⟨by rw [HE.out], rfl⟩
        case rest =>
          obtain ⟨rfl, rfl⟩ := hcut
          have hmI : (m : Int) ≤ (t.size : Int) := by omega
          go_upto_region 6 with (fail)
          go_still_tail 8, (by kernel_rfl)
          change wpList _ _ _ _ _ wr.drew
          go_wp2_with fail
          refine (PR.out _ (HF.out.upd (Upd.refl [] _).drew (by simp) (by simp) (by simp))).mono ?_
          rintro e w2 ⟨rfl, hf2, hu2⟩
          have HF2 := Box.mk hf2; have HU2 := Box.mk ((HU.out.trans (Upd.refl [p, bb] wr).drew).trans hu2); clear hf2 hu2
          obtain ⟨r1, r2⟩ := r
          dsimp only at PR OK2 N2 hpw HF2 ⊢
          by_cases hr : r2 = 0
          · rw [if_neg (by simpa using hr)] at hpw
            have hrb : (r2 != 0) = false := by simpa using hr
            have HPW := Box.mk hpw
            have hwA : IntKind.i64.wrap (A + (m : Int)) = A + (m : Int) := by rw [IntKind.wrap_i64]; omega
            clear hpw hr PR
            go_wp2_with fail
            go_quiet (fail)
            go_wp2_with fail
            refine ⟨⟨t.extract m t.size, r1, A + m, k', rfl, rfl, by rw [HVS.out]; omega, HPW.out, HF2.out.upd ((Upd.refl [] _).drewN _) (by simp) (by simp) (by simp), OK2.out, by rw [N2.out]; exact hn, by omega, by rw [HVS.out]; omega, HU2.out.drewN _⟩, by show (t.extract m t.size).size < t.size; rw [HVS.out]; omega⟩
          · rw [if_pos (by simpa using hr)] at hpw
            have hrb : (r2 != 0) = true := by rw [bne_iff_ne]; exact hr
            have HPW := Box.mk hpw
            clear hpw hr PR
            go_wp2_with fail
            go_ret
            obtain ⟨rfl⟩ := HPW
            exact ⟨rfl, HF2.out, HU2.out⟩
  · have hb' : inB B at_ str.size = false := by simpa using hb
    have E : Box (s.pwrite F B at_ str.data.toList = (s, 121)) := ⟨by unfold FS.pwrite; rw [hlen, hb']; rfl⟩
    obtain ⟨R, hR⟩ : ∃ R, R = s.pwrite F B at_ str.data.toList := ⟨_, rfl⟩
    rw [← hR] at E ⊢
    obtain ⟨rfl⟩ := E
    have HF := Box.mk hf
    rw [hb'] at PL
    clear hR hlen hf h hok hi hs ba hb hb'
    go_enter Try.func13, Try.ntmps13
    go_wp2_with fail
    refine PL.out.mono ?_
    rintro e w1 ⟨⟨x, rfl, hx⟩, rfl⟩
    clear PL hx
    go_wp2_with fail
    go_ret
    exact ⟨rfl, HF.out, Upd.refl _ _⟩
end Go.Proofs.Ytaeomiedmjedgaa
