/- The flash: which bits a call may set or clear: plain laws. The document's flash: what reads or writes its fields alone. The document's flash: Program. The document's flash: Erase. The document's part of a flash: size, in, read, erase, count, clean. The document's part of a flash: count, clean, write, new. -/
import Derived.Test.YtopiopomioglfaaM12
import Derived.IntWalk
import Derived.Test.YtopiopomioglfaaM03
import Derived.Test.YtopiopomioglfaaM04
namespace Go.Proofs.Ytopiopomioglfaa
set_option maxRecDepth 100000
set_option linter.unusedVariables false
open Go Go.RowKit

/-- Outside of [f, t) no bit is set, within none is cleared. -/
structure Bits (was now : List UInt8) (f t : Nat) : Prop where
  len : now.length = was.length
  out : ∀ (k : Nat) (o n : UInt8), was[k]? = some o → now[k]? = some n → ¬ (f ≤ k ∧ k < t) → n &&& ~~~o = 0
  in_ : ∀ (k : Nat) (o n : UInt8), was[k]? = some o → now[k]? = some n → f ≤ k ∧ k < t → o &&& ~~~n = 0
theorem Bits.same (b : List UInt8) : Bits b b 0 0 :=
  ⟨rfl, fun k o n h1 h2 _ => by rw [h1] at h2; cases h2; exact bit6 o, fun k o n _ _ h => by omega⟩
theorem Bits.prog (b : List UInt8) (A : Nat) (l : List UInt8) (g : Bool) (keep : Int) (mask : UInt8) : Bits b (progBytes b A l g keep mask) 0 0 := by
  refine ⟨progBytes_length _ _ _ _ _ _, fun k o n h1 h2 _ => ?_, fun k o n _ _ h => by omega⟩
  rw [progBytes_at, h1, Option.map_some] at h2
  cases h2
  split
  · split
    · simp only [progByte]
      split
      · exact bit5 _ _
      · split
        · exact bit1 _ _ _
        · exact bit6 _
    · exact bit6 _
  · exact bit6 _
theorem Bits.erase (b : List UInt8) (K : Nat) (g : Bool) (keep : Int) (mask : UInt8) : Bits b (eraseUpto b (512 * K) 512 g keep mask) (512 * K) (512 * K + 512) := by
  refine ⟨eraseUpto_length _ _ _ _ _ _, fun k o n h1 h2 h => ?_, fun k o n h1 h2 h => ?_⟩
  · rw [eraseUpto_at, h1, Option.map_some, if_neg h] at h2
    cases h2; exact bit6 _
  · rw [eraseUpto_at, h1, Option.map_some, if_pos h] at h2
    cases h2
    simp only [eraseByte]
    split
    · exact bit4 _
    · split
      · exact bit3 _ _
      · exact bit6 _
theorem Bits.in0 {was now : List UInt8} (K : Nat) (h : Bits was now 0 0) (he : now = was) : Bits was now (512 * K) (512 * K + 512) :=
  ⟨h.len, fun k o n h1 h2 _ => h.out k o n h1 h2 (by omega), fun k o n h1 h2 _ => by subst he; rw [h1] at h2; cases h2; exact bit6 o⟩
theorem FS.program_bits (s : FS) (at_ : Int) (l : List UInt8) : Bits s.b (s.program at_ l).1.b 0 0 := by
  unfold FS.program
  split
  · exact Bits.same _
  · split
    · exact Bits.same _
    · split
      · exact Bits.same _
      · split
        · exact Bits.same _
        · exact Bits.prog _ _ _ _ _ _
/-- Erase: either nothing was done, or it is a block's. -/
theorem FS.erase_bits (s : FS) (block : Int) :
    ((s.erase block).2 = 111 → Bits s.b (s.erase block).1.b 0 0) ∧ (¬ (0 ≤ block ∧ block < s.n.length) → Bits s.b (s.erase block).1.b 0 0) ∧
    (0 ≤ block ∧ block < s.n.length → Bits s.b (s.erase block).1.b (512 * block.toNat) (512 * block.toNat + 512)) := by
  unfold FS.erase
  by_cases hd : s.dead = true
  · rw [if_pos hd]
    exact ⟨fun _ => Bits.same _, fun _ => Bits.same _, fun _ => Bits.in0 _ (Bits.same _) rfl⟩
  · rw [if_neg hd]
    by_cases hb : blkB s.n.length block = false
    · rw [if_pos hb]
      exact ⟨fun _ => Bits.same _, fun _ => Bits.same _, fun _ => Bits.in0 _ (Bits.same _) rfl⟩
    · rw [if_neg hb]
      have hb' : 0 ≤ block ∧ block < s.n.length := by unfold blkB at hb; simpa using hb
      refine ⟨fun h => ?_, fun h => absurd hb' h, fun _ => Bits.erase _ _ _ _ _⟩
      have h : toldI s.goes = 111 := h
      unfold toldI at h
      split at h <;> cases h
theorem FS.erase_ans (s : FS) (block : Int) : (s.erase block).2 = 111 ∨ (s.erase block).2 = 2 ∨ ((s.erase block).2 = 0 ∧ 0 ≤ block ∧ block < s.n.length) := by
  unfold FS.erase
  split
  · right; left; rfl
  · split
    · left; rfl
    · rename_i hb
      have hb' : 0 ≤ block ∧ block < s.n.length := by unfold blkB at hb; simpa using hb
      show toldI _ = 111 ∨ toldI _ = 2 ∨ (toldI _ = 0 ∧ _)
      unfold toldI
      split
      · right; left; rfl
      · right; right; exact ⟨rfl, hb'⟩
theorem FS.arm_b (s : FS) (n k : Int) (m : UInt8) : (s.arm n k m).1.b = s.b := by
  unfold FS.arm
  (repeat' split) <;> rfl
/-- The same of strings. -/
theorem Bits.str {a b : List UInt8} {f t : Nat} (h : Bits a b f t) {was now : ByteArray} (h1 : was = ⟨a.toArray⟩) (h2 : now = ⟨b.toArray⟩) :
    now.size = was.size ∧ ∀ (k : Nat) (g1 : k < was.size) (g2 : k < now.size), (¬ (f ≤ k ∧ k < t) → now[k] &&& ~~~was[k] = 0) ∧ (f ≤ k ∧ k < t → was[k] &&& ~~~now[k] = 0) := by
  subst h1 h2
  refine ⟨by show b.toArray.size = a.toArray.size; simpa using h.len, fun k g1 g2 => ?_⟩
  have g1 : k < a.length := by have : k < a.toArray.size := g1; simpa using this
  have g2 : k < b.length := by have : k < b.toArray.size := g2; simpa using this
  exact ⟨h.out k a[k] b[k] (List.getElem?_eq_getElem _) (List.getElem?_eq_getElem _), h.in_ k a[k] b[k] (List.getElem?_eq_getElem _) (List.getElem?_eq_getElem _)⟩
theorem str_size {s : FS} (h : s.Ok) {x : ByteArray} (hx : x = ⟨s.b.toArray⟩) : x.size ≤ 131072 := by
  have h1 := h.len; have h2 := h.few
  rw [hx]; show s.b.toArray.size ≤ _; rw [List.size_toArray]; omega
end Go.Proofs.Ytopiopomioglfaa
namespace Go.Proofs.Ytopiopomioglfaa
set_option maxRecDepth 100000
set_option linter.unusedVariables false
open Go Go.RowKit

set_option maxHeartbeats 1000000 in
theorem ron_any (p bb cb : Nat) (s : FS) (at_ n : Int) (w : World) (h : Fl 57 w p bb cb s) (hok : s.Ok) (ba : -9223372036854775808 ≤ at_ ∧ at_ ≤ 9223372036854775807) (bn : -9223372036854775808 ≤ n ∧ n ≤ 9223372036854775807) :
    Calls Try.prog 76 #[.pointer (some ⟨p, 0, none⟩), .int .i64 at_, .int .i64 n] w fun e w' => e = .returned (.bool (onB s.b.length at_ n)) ∧ w = w' := by
  obtain ⟨bcap, ccap, hb, hc, c0, c1, c2, c3, c4, c5, c6⟩ := h.cells
  have hlen := hok.len
  have hfew := hok.few
  have hl : (s.b.length : Int) ≤ 131072 := by omega
  clear c1 c2 c3 c4 c5 c6 hlen hfew hc hb
  generalize s.b.length = l at c0 hl ⊢
  by_cases h0 : 0 ≤ at_
  · have h0' : decide (0 ≤ at_) = true := by simpa using h0
    by_cases h1 : 0 ≤ n
    · have h1' : decide (0 ≤ n) = true := by simpa using h1
      by_cases h2 : at_ ≤ l
      · have h2' : decide (at_ ≤ (l : Int)) = true := by simpa using h2
        have E : Box (onB l at_ n = decide (n ≤ (l : Int) - at_)) := ⟨by unfold onB; rw [decide_eq_decide]; omega⟩
        go_enter Try.func76, Try.ntmps76
        go_wp2
        go_ret
        exact ⟨by rw [E.out]; rfl, rfl⟩
      · have h2' : decide (at_ ≤ (l : Int)) = false := by simpa using h2
        have E : Box (onB l at_ n = false) := ⟨by unfold onB; rw [decide_eq_false_iff_not]; omega⟩
        go_enter Try.func76, Try.ntmps76
        go_wp2
        go_ret
        exact ⟨by rw [E.out]; rfl, rfl⟩
    · have h1' : decide (0 ≤ n) = false := by simpa using h1
      have E : Box (onB l at_ n = false) := ⟨by unfold onB; rw [decide_eq_false_iff_not]; omega⟩
      go_enter Try.func76, Try.ntmps76
      go_wp2
      go_ret
      exact ⟨by rw [E.out]; rfl, rfl⟩
  · have h0' : decide (0 ≤ at_) = false := by simpa using h0
    have E : Box (onB l at_ n = false) := ⟨by unfold onB; rw [decide_eq_false_iff_not]; omega⟩
    go_enter Try.func76, Try.ntmps76
    go_wp2
    go_ret
    exact ⟨by rw [E.out]; rfl, rfl⟩

set_option maxHeartbeats 400000 in
theorem rrevive_any (p bb cb : Nat) (s : FS) (w : World) (h : Fl 57 w p bb cb s) :
    Calls Try.prog 24 #[.pointer (some ⟨p, 0, none⟩)] w fun e w' => e = .returned (.tuple #[]) ∧ Fl 57 w' p bb cb s.back ∧ Upd [p] w w' := by
  obtain ⟨bcap, ccap, hb, hc, c0, c1, c2, c3, c4, c5, c6⟩ := h.cells
  have f3 := h.free 3; have f6 := h.free 6
  have HF := Box.mk h
  clear c0 c1 c2 c4 c5 hb hc h
  go_enter Try.func24, Try.ntmps24
  go_wp2
  go_end0
  exact ⟨rfl, (HF.out.set6 false).set3 0, ((Upd.refl _ _).setCell (by simp) _).setCell (by simp) _⟩
set_option maxHeartbeats 1000000 in
theorem rarm_any (p bb cb : Nat) (s : FS) (n keep : Int) (mask : UInt8) (w : World) (h : Fl 57 w p bb cb s) (hk : -9223372036854775808 ≤ keep ∧ keep ≤ 9223372036854775807) :
    Calls Try.prog 23 #[.pointer (some ⟨p, 0, none⟩), .int .i64 n, .int .i64 keep, .int .u8 (mask.toNat : Int)] w fun e w' => e = .returned (.int .i64 (s.arm n keep mask).2) ∧ Fl 57 w' p bb cb (s.arm n keep mask).1 ∧ Upd [p] w w' := by
  obtain ⟨bcap, ccap, hb, hc, c0, c1, c2, c3, c4, c5, c6⟩ := h.cells
  have f3 := h.free 3; have f4 := h.free 4; have f5 := h.free 5
  have HF := Box.mk h
  clear c0 c1 c2 hb hc h
  by_cases hd : s.dead = true
  · have E : Box (s.arm n keep mask = (s, 2)) := ⟨by unfold FS.arm; rw [if_pos hd]⟩
    rw [hd] at c6; clear hd
    rw [E.out]
    go_enter Try.func23, Try.ntmps23
    go_wp2
    go_ret
    exact ⟨rfl, HF.out, Upd.refl _ _⟩
  · have hd' : s.dead = false := by simpa using hd
    by_cases hn : n < 0
    · have E : Box (s.arm n keep mask = (s, 1)) := ⟨by unfold FS.arm; rw [if_neg hd, if_pos hn]⟩
      rw [hd'] at c6; clear hd hd'
      rw [E.out]
      go_enter Try.func23, Try.ntmps23
      go_wp2
      go_ret
      exact ⟨rfl, HF.out, Upd.refl _ _⟩
    · have E : Box (s.arm n keep mask = ({ s with armed := n, keep := max 0 keep, mask := mask }, 0)) := ⟨by unfold FS.arm; rw [if_neg hd, if_neg hn]⟩
      rw [hd'] at c6; clear hd hd'
      rw [E.out]
      go_enter Try.func23, Try.ntmps23
      go_wp2
      · go_ret
        have hm : max 0 keep = 0 := by omega
        exact ⟨rfl, (((HF.out.set3 n).set4 0).set5 mask).to (by rw [hm]), (((Upd.refl _ _).setCell (by simp) _).setCell (by simp) _).setCell (by simp) _⟩
      · go_ret
        have hm : max 0 keep = keep := by omega
        exact ⟨rfl, (((HF.out.set3 n).set4 keep).set5 mask).to (by rw [hm]), (((Upd.refl _ _).setCell (by simp) _).setCell (by simp) _).setCell (by simp) _⟩
set_option maxHeartbeats 1000000 in
theorem rread_any (p bb cb : Nat) (s : FS) (at_ n : Int) (w : World) (h : Fl 57 w p bb cb s) (hok : s.Ok) (ba : -9223372036854775808 ≤ at_ ∧ at_ ≤ 9223372036854775807) (bn : -9223372036854775808 ≤ n ∧ n ≤ 9223372036854775807) :
    Calls Try.prog 60 #[.pointer (some ⟨p, 0, none⟩), .int .i64 at_, .int .i64 n] w fun e w' => e = .returned (if s.dead then .tuple #[.string ⟨#[]⟩, .int .i64 2] else if onB s.b.length at_ n then .tuple #[.string ⟨((s.b.drop at_.toNat).take n.toNat).toArray⟩, .int .i64 0] else .tuple #[.string ⟨#[]⟩, .int .i64 111]) ∧ w = w' := by
  have HF := Box.mk h
  obtain ⟨bcap, ccap, hb, hc, c0, c1, c2, c3, c4, c5, c6⟩ := h.cells
  have hby := Box.mk (fun j u hu => (h.byte j u hu).1)
  clear c1 c2 c3 c4 c5 hc h
  by_cases hd : s.dead = true
  · rw [if_pos hd]
    rw [hd] at c6; clear hd
    go_enter Try.func60, Try.ntmps60
    go_wp2
    go_ret2
    exact ⟨rfl, rfl⟩
  · rw [if_neg hd]
    have hd' : s.dead = false := by simpa using hd
    rw [hd'] at c6; clear hd hd'
    by_cases ho : onB s.b.length at_ n = true
    · rw [if_pos ho]
      have hon : 0 ≤ at_ ∧ 0 ≤ n ∧ at_ + n ≤ s.b.length := by unfold onB at ho; simpa using ho
      obtain ⟨A, rfl⟩ := Int.eq_ofNat_of_zero_le hon.1
      obtain ⟨N, rfl⟩ := Int.eq_ofNat_of_zero_le hon.2.1
      have hlb : (s.b.length : Int) ≤ 131072 := by have := hok.len; have := hok.few; omega
      have hln : ((s.b.drop A).take N).length = N := by simp; omega
      have hcv := run_bytes_at Try.prog w bb A (bcap - A) ((s.b.drop A).take N) 54 9 5 N hln Try.underlying54 Try.underlying5 Try.underlying9 (fun j u hu => by
        have hj : j < N := by have := (List.getElem?_eq_some_iff.1 hu).1; rw [hln] at this; exact this
        rw [List.getElem?_take, if_pos hj, List.getElem?_drop] at hu
        exact hby.out _ _ hu)
      have HO := Box.mk ho; clear ho hln hby
      have hbI : ((s.b.length : Nat) : Int) ≤ (bcap : Int) := by omega
      have hANI : (A : Int) + (N : Int) ≤ (bcap : Int) := by omega
      go_enter Try.func60, Try.ntmps60
      go_wp2_with fail
      refine (ron_any p bb cb s A N _ HF.out hok (by omega) (by omega)).mono ?_
      rintro e w1 ⟨rfl, rfl⟩
      rw [HO.out]
      have hcv2 : bcap = A → (convert 54 9 (.slice (some ⟨bb, 0, none⟩) N 0)).run Try.prog w = .ok (.string ⟨((s.b.drop A).take N).toArray⟩) w := fun e => by
        have hN : N = 0 := by omega
        subst hN
        have := run_bytes_at Try.prog w bb 0 0 [] 54 9 5 0 rfl Try.underlying54 Try.underlying5 Try.underlying9 (fun j u hu => by simp at hu)
        rw [this]; simp
      by_cases hcA : bcap = A
      · have hcv2 := hcv2 hcA
        go_wp2
        go_ret2
        exact ⟨rfl, rfl⟩
      · clear hcv2
        go_wp2
        go_ret2
        exact ⟨rfl, rfl⟩
    · rw [if_neg ho]
      have ho' : onB s.b.length at_ n = false := by simpa using ho
      have HO := Box.mk ho'; clear ho ho' hby
      go_enter Try.func60, Try.ntmps60
      go_wp2_with fail
      refine (ron_any p bb cb s at_ n _ HF.out hok ba bn).mono ?_
      rintro e w1 ⟨rfl, rfl⟩
      rw [HO.out]
      go_wp2
      go_ret2
      exact ⟨rfl, rfl⟩
set_option maxHeartbeats 1000000 in
theorem goes_any (p bb cb : Nat) (s : FS) (w : World) (h : Fl 57 w p bb cb s) (hok : s.Ok) (hd : s.dead = false) :
    Calls Try.prog 89 #[.pointer (some ⟨p, 0, none⟩)] w fun e w' => e = .returned (.bool s.goes) ∧ Fl 57 w' p bb cb s.step ∧ Upd [p] w w' := by
  obtain ⟨bcap, ccap, hb, hc, c0, c1, c2, c3, c4, c5, c6⟩ := h.cells
  have f2 := h.free 2; have f3 := h.free 3; have f6 := h.free 6
  have hkeep := hok.armed
  have HD := Box.mk hd
  rw [hd] at c6
  by_cases ha : s.armed = 0
  · have ha' : decide (0 < s.armed) = false := by simp; omega
    have HA := Box.mk ha; clear ha hd
    clear c0 c1 c4 c5
    go_enter Try.func89, Try.ntmps89
    go_wp2
    go_ret
    refine ⟨by simp [FS.goes, HA.out], (h.set2 _).to (by cases s; have := HA.out; simp_all [FS.step]), (Upd.refl _ _).setCell (by simp) _⟩
  · have ha' : decide (0 < s.armed) = true := by simp; omega
    have HA := Box.mk ha; clear ha hd
    clear c0 c1 c4 c5
    go_enter Try.func89, Try.ntmps89
    go_wp2
    go_ret
    refine ⟨?_, (((h.set2 _).set3 _).set6 _).to (by cases s; have := HA.out; simp_all [FS.step]; rfl), (((Upd.refl _ _).setCell (by simp) _).setCell (by simp) _).setCell (by simp) _⟩
    simp only [FS.goes, if_neg HA.out]
    rfl
end Go.Proofs.Ytopiopomioglfaa
namespace Go.Proofs.Ytopiopomioglfaa
set_option maxRecDepth 100000
set_option linter.unusedVariables false
open Go Go.RowKit

set_option maxRecDepth 100000 in
set_option maxHeartbeats 2000000 in
theorem rprog_loop (p bb cb A : Nat) (s : FS) (str : ByteArray) (w : World) (h : Fl 57 w p bb cb s) (hok : s.Ok) (hd : s.dead = false) (hl : A + str.size ≤ s.b.length) (hne : str.size ≠ 0) (hp : (A : Int) % 64 + str.size ≤ 64) :
    Calls Try.prog 75 #[.pointer (some ⟨p, 0, none⟩), .int .i64 A, .string str] w fun e w' => e = .returned (.int .i64 (toldI s.goes)) ∧ Fl 57 w' p bb cb { s.step with b := progBytes s.b A str.data.toList s.goes s.keep s.mask } ∧ Upd [p, bb] w w' := by
  obtain ⟨bcap, ccap, hb, hc, c0, c1, c2, c3, c4, c5, c6⟩ := h.cells
  have HD := Box.mk hd
  rw [hd] at c6
  have hb2 : (s.b.length : Int) ≤ 131072 := by have := hok.len; have := hok.few; omega
  have hon : onB s.b.length (A : Int) (str.size : Int) = true := by unfold onB; rw [decide_eq_true_iff]; omega
  have hz : ((str.size : Int) == 0) = false := by rw [beq_eq_false_iff_ne]; omega
  have hpg : ¬ (64 < (A : Int) % 64 + str.size) := by omega
  have HON := Box.mk hon; clear hon hd hp
  have HF := Box.mk h
  have e1 : Box (toldI true = 2) := ⟨by unfold toldI; rfl⟩
  have e2 : Box (toldI false = 0) := ⟨by unfold toldI; rfl⟩
  clear c1 c2 c3 c4 c5 hc h
  go_enter Try.func75, Try.ntmps75
  go_wp2_with fail
  refine (ron_any p bb cb s A str.size _ HF.out hok (by omega) (by omega)).mono ?_
  rintro e w1 ⟨rfl, rfl⟩
  rw [HON.out]
  go_wp2_with fail
  refine (goes_any p bb cb s _ HF.out hok HD.out).mono ?_
  rintro e w1 ⟨rfl, hf1, hu1⟩
  have hkeep := hok.keep
  obtain ⟨bcap1, ccap1, hb1, hc1, d0, d1, d2, d3, d4, d5, d6⟩ := hf1.cells
  have HF1 := Box.mk hf1; clear hf1
  have HU1 := Box.mk hu1; clear hu1
  have HNE := Box.mk hne; clear hne
  have HL := Box.mk hl
  clear c0 c6 d0 d1 d2 d3 d4 d5 d6 hb1 hc1 hb
  generalize hG : s.goes = G
  have HG := Box.mk hG; clear hG
  go_wp2_with fail
  go_loopw [8] (fun i wr => ∃ k : Nat, k ≤ str.size ∧ i = .int .i64 k ∧ Fl 57 wr p bb cb { s.step with b := progBytes s.b A (str.data.toList.take k) G s.keep s.mask } ∧ Upd [p, bb] w wr) (fun i _ => str.size - (intOf i).toNat)
  case atStart => exact ⟨0, by omega, rfl, HF1.out.to (by rw [List.take_zero, progBytes_nil]; rfl), HU1.out.mono (by simp)⟩
  case round =>
    clear HF1 HU1
    obtain ⟨k, hk, rfl, hf, hu⟩ := hrel
    obtain ⟨bcapr, ccapr, hbr, hcr, d0, d1, d2, d3, d4, d5, d6⟩ := hf.cells
    simp only [progBytes_length] at d0 hbr
    have hkp : s.step.keep = s.keep := rfl
    have hmk : s.step.mask = s.mask := rfl
    simp only [hkp, hmk] at d4 d5
    clear hkp hmk d1 d2 d3 d6 hcr
    have HU := Box.mk hu; clear hu
    have n1 : ¬ bb = p := fun e => hf.d1 e.symm
    have n2 : ¬ p = bb := hf.d1
    by_cases hlt : k < str.size
    · have hAk : A + k < s.b.length := by omega
      obtain ⟨old, ho⟩ : ∃ old, s.b[A + k]? = some old := ⟨_, List.getElem?_eq_getElem hAk⟩
      have hc : str.data.toList[k]? = some str[k] := by rw [List.getElem?_eq_getElem (by simpa using hlt)]; rfl
      have hob : (progBytes s.b A (str.data.toList.take k) G s.keep s.mask)[A + k]? = some old := by
        rw [progBytes_get _ _ _ _ _ _ _ (by left; simp; omega)]; exact ho
      obtain ⟨e1, e2⟩ := hf.byte (A + k) old hob
      have hst := progBytes_step s.b A str.data.toList G s.keep s.mask k str[k] old hc ho
      have HST := Box.mk hst; clear hst
      have HFR := Box.mk hf; clear hf
      have hset := fun (v : UInt8) (n : Int) hn => ((HFR.out.upd (S := []) (Upd.refl _ _).drew (by simp) (by simp) (by simp)).setb (A + k) (by simp only [progBytes_length]; exact hAk) v n hn)
      have HSET := Box.mk hset; clear hset ho hob hc
      have q1 := and_u8 old str[k]; have q2 := or_u8 str[k] s.mask; have q3 := and_u8 old (str[k] ||| s.mask)
      have hcv := str[k].toNat_lt; have hov := old.toNat_lt
      have hkI : (k : Int) < (str.size : Int) := by omega
      have hAkI : (A : Int) + (k : Int) < (s.b.length : Int) := by omega
      cases G
      · have w1 : IntKind.i64.wrap ((A : Int) + (k : Int)) = (A : Int) + (k : Int) := IntWalk.i64_in _ (by omega)
        have w2 : ((A : Int) + (k : Int)).toNat = A + k := by omega
        have w3 : 0 ≤ (A : Int) + (k : Int) := by omega
        go_wp2_with fail
        go_still_tail 14, (by kernel_rfl)
        change wpList _ _ _ _ _ wr.drew
        clear w1 w2 w3
        go_wp2
        refine ⟨⟨k + 1, by omega, by go_num, (HSET.out (old &&& str[k]) _ (by rw [UInt8.toNat_and])).to ?_, HU.out.drew.setCell (by simp) _⟩, by simp [intOf]; omega⟩
        rw [← HST.out]; simp [progByte]
      · by_cases hc1 : (k : Int) < s.keep
        · have hc1' : decide ((k : Int) < s.keep) = true := by simpa using hc1
          have hc2' : ((k : Int) == s.keep) = false := by rw [beq_eq_false_iff_ne]; omega
          have HC1 := Box.mk hc1
          have w1 : IntKind.i64.wrap ((A : Int) + (k : Int)) = (A : Int) + (k : Int) := IntWalk.i64_in _ (by omega)
          have w2 : ((A : Int) + (k : Int)).toNat = A + k := by omega
          have w3 : 0 ≤ (A : Int) + (k : Int) := by omega
          go_wp2_with fail
          go_still_tail 14, (by kernel_rfl)
          change wpList _ _ _ _ _ wr.drew
          clear w1 w2 w3
          go_wp2
          refine ⟨⟨k + 1, by omega, by go_num, (HSET.out (old &&& str[k]) _ (by rw [UInt8.toNat_and])).to ?_, HU.out.drew.setCell (by simp) _⟩, by simp [intOf]; omega⟩
          rw [← HST.out]; simp [progByte, HC1.out]
        · have hc1' : decide ((k : Int) < s.keep) = false := by simpa using hc1
          have HC1 := Box.mk hc1
          by_cases hc2 : (k : Int) = s.keep
          · have hc2' : ((k : Int) == s.keep) = true := by simpa using hc2
            have HC2 := Box.mk hc2; clear hc2
            have w1 : IntKind.i64.wrap ((A : Int) + (k : Int)) = (A : Int) + (k : Int) := IntWalk.i64_in _ (by omega)
            have w2 : ((A : Int) + (k : Int)).toNat = A + k := by omega
            have w3 : 0 ≤ (A : Int) + (k : Int) := by omega
            go_wp2_with fail
            go_still_tail 19, (by kernel_rfl)
            change wpList _ _ _ _ _ wr.drew
            clear w1 w2 w3
            go_wp2
            refine ⟨⟨k + 1, by omega, by go_num, (HSET.out (old &&& (str[k] ||| s.mask)) _ (by rw [← UInt8.toNat_or, and_u8])).to ?_, HU.out.drew.setCell (by simp) _⟩, by simp [intOf]; omega⟩
            rw [← HST.out]; simp only [progByte]; rw [if_neg (by simp; omega), if_pos HC2.out]
          · have hc2' : ((k : Int) == s.keep) = false := by rw [beq_eq_false_iff_ne]; exact hc2
            have HC2 : Box (s.keep < (k : Int)) := ⟨by omega⟩
            clear hc2
            go_wp2
            refine ⟨⟨k + 1, by omega, by go_num, HFR.out.to ?_, HU.out⟩, by simp [intOf]; omega⟩
            rw [progBytes_rest _ _ _ _ _ _ HC2.out, progBytes_rest _ _ _ _ _ _ (by have := HC2.out; omega : s.keep < ((k + 1 : Nat) : Int))]
    · have hk2 : k = str.size := by omega
      subst hk2
      have HFR := Box.mk hf; clear hf
      cases G
      all_goals
        go_wp2
        go_ret
        refine ⟨?_, HFR.out.to ?_, HU.out⟩
        · rw [HG.out]; first | (rw [e1.out]; rfl) | (rw [e2.out]; rfl)
        · rw [HG.out, List.take_of_length_le (by simp)]

set_option maxRecDepth 100000 in
set_option maxHeartbeats 2000000 in
/-- The document's Program. -/
theorem rprogram_any (p bb cb : Nat) (s : FS) (at_ : Int) (str : ByteArray) (w : World) (h : Fl 57 w p bb cb s) (hok : s.Ok) (ba : -9223372036854775808 ≤ at_ ∧ at_ ≤ 9223372036854775807) (hs : str.size ≤ 9223372036854775807) :
    Calls Try.prog 75 #[.pointer (some ⟨p, 0, none⟩), .int .i64 at_, .string str] w fun e w' => e = .returned (.int .i64 (s.program at_ str.data.toList).2) ∧ Fl 57 w' p bb cb (s.program at_ str.data.toList).1 ∧ Upd [p, bb] w w' := by
  have hlen : str.data.toList.length = str.size := by simp
  have HF := Box.mk h
  obtain ⟨bcap, ccap, hb, hc, c0, c1, c2, c3, c4, c5, c6⟩ := h.cells
  clear c0 c1 c2 c3 c4 c5 hb hc h
  by_cases hd : s.dead = true
  · have E : Box (s.program at_ str.data.toList = (s, 2)) := ⟨by unfold FS.program; rw [if_pos hd]⟩
    rw [hd] at c6; clear hd
    rw [E.out]
    go_enter Try.func75, Try.ntmps75
    go_wp2
    go_ret
    exact ⟨rfl, HF.out, Upd.refl _ _⟩
  · by_cases ho : onB s.b.length at_ str.size = true
    · by_cases hn : str.size = 0
      · have E : Box (s.program at_ str.data.toList = (s, 0)) := ⟨by
          unfold FS.program; rw [if_neg hd, hlen, if_neg (by rw [ho]; simp), if_pos (List.eq_nil_of_length_eq_zero (by rw [hlen, hn]))]⟩
        rw [E.out]
        have hd' : s.dead = false := by simpa using hd
        rw [hd'] at c6; clear hd hd'
        have hz : ((str.size : Int) == 0) = true := by rw [beq_iff_eq]; omega
        have HO := Box.mk ho; clear ho hlen hn
        go_enter Try.func75, Try.ntmps75
        go_wp2_with fail
        refine (ron_any p bb cb s at_ str.size _ HF.out hok ba (by omega)).mono ?_
        rintro e w1 ⟨rfl, rfl⟩
        rw [HO.out]
        go_wp2
        go_ret
        exact ⟨rfl, HF.out, Upd.refl _ _⟩
      · have hon : 0 ≤ at_ ∧ 0 ≤ (str.size : Int) ∧ at_ + str.size ≤ s.b.length := by unfold onB at ho; simpa using ho
        by_cases hp : at_ / 64 = (at_ + str.size - 1) / 64
        · obtain ⟨A, rfl⟩ := Int.eq_ofNat_of_zero_le hon.1
          have E : Box (s.program A str.data.toList = ({ s.step with b := progBytes s.b A str.data.toList s.goes s.keep s.mask }, toldI s.goes)) := ⟨by
            unfold FS.program; rw [if_neg hd, hlen, if_neg (by rw [ho]; simp), if_neg (fun e => hn (by rw [← hlen, e]; rfl)), if_neg (by simpa using hp)]; rfl⟩
          rw [E.out]
          exact rprog_loop p bb cb A s str w HF.out hok (by simpa using hd) (by omega) hn (by omega)
        · have E : Box (s.program at_ str.data.toList = (s, 112)) := ⟨by
            unfold FS.program; rw [if_neg hd, hlen, if_neg (by rw [ho]; simp), if_neg (fun e => hn (by rw [← hlen, e]; rfl)), if_pos hp]⟩
          rw [E.out]
          have hd' : s.dead = false := by simpa using hd
          rw [hd'] at c6; clear hd hd'
          have hlb : (s.b.length : Int) ≤ 131072 := by have := hok.len; have := hok.few; omega
          have hz : ((str.size : Int) == 0) = false := by rw [beq_eq_false_iff_ne]; omega
          have hpg : 64 < at_ % 64 + (str.size : Int) := by omega
          have h0 := hon.1
          have h1 : (str.size : Int) ≤ 131072 := by omega
          have HO := Box.mk ho
          clear ho hlen hn hp hon
          go_enter Try.func75, Try.ntmps75
          go_wp2_with fail
          refine (ron_any p bb cb s at_ str.size _ HF.out hok ba (by omega)).mono ?_
          rintro e w1 ⟨rfl, rfl⟩
          rw [HO.out]
          go_wp2
          go_ret
          exact ⟨rfl, HF.out, Upd.refl _ _⟩
    · have ho' : onB s.b.length at_ str.size = false := by simpa using ho
      have E : Box (s.program at_ str.data.toList = (s, 111)) := ⟨by unfold FS.program; rw [if_neg hd, hlen, if_pos ho']⟩
      rw [E.out]
      have hd' : s.dead = false := by simpa using hd
      rw [hd'] at c6; clear hd hd'
      have HO := Box.mk ho'; clear ho ho' hlen
      go_enter Try.func75, Try.ntmps75
      go_wp2_with fail
      refine (ron_any p bb cb s at_ str.size _ HF.out hok ba (by omega)).mono ?_
      rintro e w1 ⟨rfl, rfl⟩
      rw [HO.out]
      go_wp2
      go_ret
      exact ⟨rfl, HF.out, Upd.refl _ _⟩
end Go.Proofs.Ytopiopomioglfaa
namespace Go.Proofs.Ytopiopomioglfaa
set_option maxRecDepth 100000
set_option linter.unusedVariables false
open Go Go.RowKit

theorem eraseUpto_skip (b : List UInt8) (base m : Nat) (keep : Int) (mask : UInt8) (hp : keep < ((m / 64 : Nat) : Int)) :
    eraseUpto b base (m + 1) true keep mask = eraseUpto b base m true keep mask := by
  apply List.ext_getElem?; intro k
  simp only [eraseUpto, List.getElem?_mapIdx]
  congr 1; funext old
  by_cases hA : base ≤ k ∧ k < base + m
  · rw [if_pos hA, if_pos (by omega)]
  · rw [if_neg hA]
    split
    · rename_i hB
      obtain rfl : k = base + m := by omega
      rw [show base + m - base = m from by omega]
      simp only [eraseByte]; rw [if_neg (by simp; omega), if_neg (by omega)]
    · rfl

set_option maxRecDepth 100000 in
set_option maxHeartbeats 2000000 in
theorem rerase_loop (p bb cb K : Nat) (s : FS) (w : World) (h : Fl 57 w p bb cb s) (hok : s.Ok) (hd : s.dead = false) (hk : K < s.n.length) :
    Calls Try.prog 74 #[.pointer (some ⟨p, 0, none⟩), .int .i64 K] w fun e w' => e = .returned (.int .i64 (toldI s.goes)) ∧ Fl 57 w' p bb cb { s.step with n := s.bump K, b := eraseUpto s.b (512 * K) 512 s.goes s.keep s.mask } ∧ Upd [p, bb, cb] w w' := by
  obtain ⟨bcap, ccap, hb, hc, c0, c1, c2, c3, c4, c5, c6⟩ := h.cells
  have HD := Box.mk hd
  rw [hd] at c6
  have hfew := hok.few
  have hlen := Box.mk hok.len
  have HF := Box.mk h
  have hkI : (K : Int) < (s.n.length : Int) := by omega
  have t1 : Box (toldI true = 2) := ⟨by unfold toldI; rfl⟩
  have t2 : Box (toldI false = 0) := ⟨by unfold toldI; rfl⟩
  obtain ⟨old, ho⟩ : ∃ old, s.n[K]? = some old := ⟨_, List.getElem?_eq_getElem hk⟩
  obtain ⟨x1, x2⟩ := h.count K old ho
  have hset : Fl 57 (w.setCell ⟨cb, K, none⟩ (.int .i64 (wrap64 (old + 1)))) p bb cb { s with n := s.bump K } := (h.setn K hk (wrap64 (old + 1))).to (by
    unfold FS.bump; rw [List.getD_eq_getElem?_getD, ho]; rfl)
  have HS := Box.mk hset
  have HU0 := Box.mk ((Upd.refl [p, bb, cb] w).setCell (p := ⟨cb, K, none⟩) (by simp) (.int .i64 (wrap64 (old + 1))))
  have hok1 : ({ s with n := s.bump K } : FS).Ok := ⟨hok.armed, hok.keep, by simp only [FS.bump, List.length_set]; exact hok.len, by simp only [FS.bump, List.length_set]; exact hok.few⟩
  have hg1 : ({ s with n := s.bump K } : FS).goes = s.goes := rfl
  have HG1 := Box.mk hg1; have OK1 := Box.mk hok1
  clear c0 c2 c3 c4 c5 hc hb h hd hset hg1 hok1 ho
  go_enter Try.func74, Try.ntmps74
  go_wp2_with fail
  refine (goes_any p bb cb _ _ HS.out OK1.out HD.out).mono ?_
  rintro e w1 ⟨rfl, hf1, hu1⟩
  rw [HG1.out]
  have hkeep := hok.keep
  have HF1 : Box (Fl 57 w1 p bb cb { s.step with n := s.bump K }) := ⟨hf1.to rfl⟩
  have HU := Box.mk (HU0.out.trans (hu1.mono (T := [p, bb, cb]) (by simp)))
  clear hf1 hu1 c1 c6 x1 x2
  generalize hG : s.goes = G
  have HG := Box.mk hG; clear hG
  go_wp2_with fail
  go_loopw [6] (fun i wr => ∃ m : Nat, m ≤ 512 ∧ i = .int .i64 m ∧ Fl 57 wr p bb cb { s.step with n := s.bump K, b := eraseUpto s.b (512 * K) m G s.keep s.mask } ∧ Upd [p, bb, cb] w wr) (fun i _ => 512 - (intOf i).toNat)
  case atStart => exact ⟨0, by omega, rfl, HF1.out.to (by rw [eraseUpto_zero]; rfl), HU.out⟩
  case round =>
    clear HS HU HF1 HU0
    obtain ⟨m, hm, rfl, hf, hu⟩ := hrel
    obtain ⟨bcapr, ccapr, hbr, hcr, d0, d1, d2, d3, d4, d5, d6⟩ := hf.cells
    have hkp : s.step.keep = s.keep := rfl
    have hmk : s.step.mask = s.mask := rfl
    simp only [hkp, hmk, eraseUpto_length] at d0 d4 d5
    clear hkp hmk d1 d2 d3 d6 hcr hbr
    have HU := Box.mk hu; clear hu
    have n1 : ¬ bb = p := fun e => hf.d1 e.symm
    have n2 : ¬ p = bb := hf.d1
    by_cases hlt : m < 512
    · have hin : 512 * K + m < s.b.length := by have := hlen.out; omega
      obtain ⟨old, ho⟩ : ∃ old, s.b[512 * K + m]? = some old := ⟨_, List.getElem?_eq_getElem hin⟩
      have hob : (eraseUpto s.b (512 * K) m G s.keep s.mask)[512 * K + m]? = some old := by
        rw [eraseUpto_get _ _ _ _ _ _ _ (Nat.le_refl _)]; exact ho
      obtain ⟨e1, e2⟩ := hf.byte (512 * K + m) old hob
      have HST := Box.mk (eraseUpto_step s.b (512 * K) m G s.keep s.mask old ho)
      have HFR := Box.mk hf; clear hf
      have HSET := Box.mk (fun (v : UInt8) (n : Int) hn => (HFR.out.setb (512 * K + m) (by simp only [eraseUpto_length]; exact hin) v n hn))
      have HSETD := Box.mk (fun (v : UInt8) (n : Int) hn => ((HFR.out.upd (S := []) (Upd.refl _ _).drew (by simp) (by simp) (by simp)).setb (512 * K + m) (by simp only [eraseUpto_length]; exact hin) v n hn))
      clear ho hob
      have hov := old.toNat_lt
      have q := or_u8 old s.mask
      have hI : 512 * (K : Int) + (m : Int) < (s.b.length : Int) := by omega
      have H255 : Box ((255 : Int) = ((255 : UInt8).toNat : Int)) := ⟨rfl⟩
      cases G
      · go_wp2
        refine ⟨⟨m + 1, by omega, by go_num, (HSET.out 255 _ H255.out).to ?_, HU.out.setCell (by simp) _⟩, by simp [intOf]; omega⟩
        rw [← HST.out]; simp [eraseByte]
      · by_cases hc1 : (m : Int) / 64 < s.keep
        · have hc1' : decide ((m : Int) / 64 < s.keep) = true := by simpa using hc1
          have hc2' : ((m : Int) / 64 == s.keep) = false := by rw [beq_eq_false_iff_ne]; omega
          have HC1 := Box.mk hc1
          go_wp2
          refine ⟨⟨m + 1, by omega, by go_num, (HSET.out 255 _ H255.out).to ?_, HU.out.setCell (by simp) _⟩, by simp [intOf]; omega⟩
          rw [← HST.out]; have := HC1.out; simp only [eraseByte]; rw [if_pos (Or.inr (by omega))]
        · have hc1' : decide ((m : Int) / 64 < s.keep) = false := by simpa using hc1
          have HC1 := Box.mk hc1
          by_cases hc2 : (m : Int) / 64 = s.keep
          · have hc2' : ((m : Int) / 64 == s.keep) = true := by simpa using hc2
            have HC2 := Box.mk hc2; clear hc2
            have w0 : IntKind.i64.wrap (512 * (K : Int)) = 512 * (K : Int) := IntWalk.i64_in _ (by omega)
            have w1 : IntKind.i64.wrap (512 * (K : Int) + (m : Int)) = 512 * (K : Int) + (m : Int) := IntWalk.i64_in _ (by omega)
            have w2 : (512 * (K : Int) + (m : Int)).toNat = 512 * K + m := by omega
            have w3 : 0 ≤ 512 * (K : Int) + (m : Int) := by omega
            go_wp2_with fail
            go_still_tail 16, (by kernel_rfl)
            change wpList _ _ _ _ _ wr.drew
            clear w0 w1 w2 w3
            go_wp2
            refine ⟨⟨m + 1, by omega, by go_num, (HSETD.out (old ||| s.mask) _ (by first | rfl | exact or_u8 _ _ | (rw [UInt8.toNat_or]))).to ?_, HU.out.drew.setCell (by simp) _⟩, by simp [intOf]; omega⟩
            rw [← HST.out]; have := HC2.out; simp only [eraseByte]; rw [if_neg (by simp; omega), if_pos (by omega)]
          · have hc2' : ((m : Int) / 64 == s.keep) = false := by rw [beq_eq_false_iff_ne]; exact hc2
            have HC2 : Box (s.keep < (m : Int) / 64) := ⟨by omega⟩
            clear hc2
            go_wp2
            refine ⟨⟨m + 1, by omega, by go_num, HFR.out.to ?_, HU.out⟩, by simp [intOf]; omega⟩
            rw [eraseUpto_skip _ _ _ _ _ (by have := HC2.out; omega)]
    · have hk2 : m = 512 := by omega
      subst hk2
      have HFR := Box.mk hf; clear hf
      cases G
      all_goals
        go_wp2
        go_ret
        refine ⟨?_, HFR.out.to ?_, HU.out⟩
        · rw [HG.out]; first | (rw [t1.out]; rfl) | (rw [t2.out]; rfl)
        · rw [HG.out]

set_option maxHeartbeats 1000000 in
/-- The document's Erase. -/
theorem rerase_any (p bb cb : Nat) (s : FS) (block : Int) (w : World) (h : Fl 57 w p bb cb s) (hok : s.Ok) :
    Calls Try.prog 74 #[.pointer (some ⟨p, 0, none⟩), .int .i64 block] w fun e w' => e = .returned (.int .i64 (s.erase block).2) ∧ Fl 57 w' p bb cb (s.erase block).1 ∧ Upd [p, bb, cb] w w' := by
  have HF := Box.mk h
  obtain ⟨bcap, ccap, hb, hc, c0, c1, c2, c3, c4, c5, c6⟩ := h.cells
  clear c0 c2 c3 c4 c5 hb hc h
  by_cases hd : s.dead = true
  · have E : Box (s.erase block = (s, 2)) := ⟨by unfold FS.erase; rw [if_pos hd]⟩
    rw [hd] at c6; clear hd c1
    rw [E.out]
    go_enter Try.func74, Try.ntmps74
    go_wp2
    go_ret
    exact ⟨rfl, HF.out, Upd.refl _ _⟩
  · have hd' : s.dead = false := by simpa using hd
    by_cases hb : 0 ≤ block ∧ block < s.n.length
    · obtain ⟨K, rfl⟩ := Int.eq_ofNat_of_zero_le hb.1
      have E : Box (s.erase K = ({ s.step with n := s.bump K, b := eraseUpto s.b (512 * K) 512 s.goes s.keep s.mask }, toldI s.goes)) := ⟨by
        unfold FS.erase; rw [if_neg hd, if_neg (by unfold blkB; rw [decide_eq_false_iff_not]; omega)]; rfl⟩
      rw [E.out]
      exact rerase_loop p bb cb K s w HF.out hok hd' (by omega)
    · have E : Box (s.erase block = (s, 111)) := ⟨by unfold FS.erase; rw [if_neg hd, if_pos (by unfold blkB; rw [decide_eq_false_iff_not]; exact hb)]⟩
      rw [E.out]
      rw [hd'] at c6; clear hd hd'
      by_cases h0 : block < 0
      · have h0' : decide (block < 0) = true := by simpa using h0
        clear hb
        go_enter Try.func74, Try.ntmps74
        go_wp2
        go_ret
        exact ⟨rfl, HF.out, Upd.refl _ _⟩
      · have h0' : decide (block < 0) = false := by simpa using h0
        have h1' : decide ((s.n.length : Int) ≤ block) = true := by rw [decide_eq_true_iff]; omega
        clear hb h0
        go_enter Try.func74, Try.ntmps74
        go_wp2
        go_ret
        exact ⟨rfl, HF.out, Upd.refl _ _⟩
end Go.Proofs.Ytopiopomioglfaa
namespace Go.Proofs.Ytopiopomioglfaa
set_option maxRecDepth 100000
set_option linter.unusedVariables false
open Go Go.RowKit

/-- The document's part lies at q: of the flash at p, from block F on, B blocks. -/
structure RPa (w : World) (q p : Nat) (F B : Int) : Prop where
  row : w.heap[q]? = some (.cells #[.pointer (some ⟨p, 0, none⟩), .int .i64 F, .int .i64 B] 84 (0, 0))
theorem RPa.cells {w : World} {q p : Nat} {F B : Int} (h : RPa w q p F B) : w.cell? ⟨q, 0, none⟩ = some (.pointer (some ⟨p, 0, none⟩)) ∧ w.cell? ⟨q, 1, none⟩ = some (.int .i64 F) ∧ w.cell? ⟨q, 2, none⟩ = some (.int .i64 B) := by
  refine ⟨?_, ?_, ?_⟩ <;> (rw [cell_of_row _ _ _ _ _ _ h.row]; rfl)
theorem RPa.lt {w : World} {q p : Nat} {F B : Int} (h : RPa w q p F B) : q < w.heap.size := (Array.getElem?_eq_some_iff.1 h.row).1
theorem RPa.upd {w w' : World} {q p : Nat} {F B : Int} {S : List Nat} (h : RPa w q p F B) (hu : Upd S w w') (hn : q ∉ S) : RPa w' q p F B := ⟨(hu.block _ h.lt hn).trans h.row⟩

theorem rsize_any (q p : Nat) (F B : Int) (n : Nat) (w : World) (h : RPa w q p F B) (hi : In n F B) :
    Calls Try.prog 37 #[.pointer (some ⟨q, 0, none⟩)] w fun e w' => e = .returned (.int .i64 (512 * B)) ∧ w = w' := by
  obtain ⟨c0, c1, c2⟩ := h.cells
  have hw : IntKind.i64.wrap (512 * B) = 512 * B := by rw [IntKind.wrap_i64]; have := hi.some; have := hi.hi; have := hi.lo; have := hi.few; omega
  clear c0 c1 hi h
  go_enter Try.func37, Try.ntmps37
  go_wp2
  go_ret
  exact ⟨rfl, rfl⟩
set_option maxHeartbeats 1000000 in
theorem rin_any (q p : Nat) (F B : Int) (k : Nat) (at_ n : Int) (w : World) (h : RPa w q p F B) (hi : In k F B) (ba : -9223372036854775808 ≤ at_ ∧ at_ ≤ 9223372036854775807) (bn : -9223372036854775808 ≤ n ∧ n ≤ 9223372036854775807) :
    Calls Try.prog 59 #[.pointer (some ⟨q, 0, none⟩), .int .i64 at_, .int .i64 n] w fun e w' => e = .returned (.bool (inB B at_ n)) ∧ w = w' := by
  obtain ⟨c0, c1, c2⟩ := h.cells
  have SZ := Box.mk (fun w h => rsize_any q p F B k w h hi)
  have HP := Box.mk h
  have h1 := hi.lo; have h2 := hi.some; have h3 := hi.hi; have h4 := hi.few
  obtain ⟨S, hS⟩ : ∃ S, S = 512 * B := ⟨_, rfl⟩
  rw [← hS] at SZ
  have hSl : 512 ≤ S ∧ S ≤ 131072 := by omega
  have E0 := inB_iff B at_ n
  rw [← hS] at E0
  clear c0 c2 h1 h2 h3 h4 hS h
  generalize inB B at_ n = r at E0 ⊢
  by_cases g0 : 0 ≤ at_
  · have g0' : decide (0 ≤ at_) = true := by simpa using g0
    by_cases g1 : 0 ≤ n
    · have g1' : decide (0 ≤ n) = true := by simpa using g1
      by_cases g2 : at_ ≤ S
      · have g2' : decide (at_ ≤ S) = true := by simpa using g2
        have hws : IntKind.i64.wrap (S - at_) = S - at_ := by rw [IntKind.wrap_i64]; omega
        have E : Box (r = decide (n ≤ S - at_)) := ⟨by cases r <;> simp at E0 ⊢ <;> omega⟩
        clear E0
        go_enter Try.func59, Try.ntmps59
        go_wp2_with fail
        refine (SZ.out _ HP.out).mono ?_
        rintro e w1 ⟨rfl, rfl⟩
        go_wp2_with fail
        refine (SZ.out _ HP.out).mono ?_
        rintro e w1 ⟨rfl, rfl⟩
        go_wp2
        go_ret
        exact ⟨by rw [E.out]; rfl, rfl⟩
      · have g2' : decide (at_ ≤ S) = false := by simpa using g2
        have E : Box (r = false) := ⟨by cases r <;> simp at E0 ⊢; omega⟩
        clear E0
        go_enter Try.func59, Try.ntmps59
        go_wp2_with fail
        refine (SZ.out _ HP.out).mono ?_
        rintro e w1 ⟨rfl, rfl⟩
        go_wp2
        go_ret
        exact ⟨by rw [E.out]; rfl, rfl⟩
    · have g1' : decide (0 ≤ n) = false := by simpa using g1
      have E : Box (r = false) := ⟨by cases r <;> simp at E0 ⊢; omega⟩
      clear E0
      go_enter Try.func59, Try.ntmps59
      go_wp2
      go_ret
      exact ⟨by rw [E.out]; rfl, rfl⟩
  · have g0' : decide (0 ≤ at_) = false := by simpa using g0
    have E : Box (r = false) := ⟨by cases r <;> simp at E0 ⊢; omega⟩
    clear E0
    go_enter Try.func59, Try.ntmps59
    go_wp2
    go_ret
    exact ⟨by rw [E.out]; rfl, rfl⟩

set_option maxHeartbeats 1000000 in
theorem rpread_any (q p bb cb : Nat) (F B : Int) (s : FS) (at_ n : Int) (w : World) (hf : Fl 57 w p bb cb s) (hok : s.Ok) (h : RPa w q p F B) (hi : In s.n.length F B) (ba : -9223372036854775808 ≤ at_ ∧ at_ ≤ 9223372036854775807) (bn : -9223372036854775808 ≤ n ∧ n ≤ 9223372036854775807) :
    Calls Try.prog 39 #[.pointer (some ⟨q, 0, none⟩), .int .i64 at_, .int .i64 n] w fun e w' => e = .returned (.tuple #[.string (preadV s F B at_ n).1, .int .i64 (preadV s F B at_ n).2]) ∧ Upd [] w w' := by
  obtain ⟨c0, c1, c2⟩ := h.cells
  have PL := Box.mk (rin_any q p F B _ at_ n w h hi ba bn)
  have h1 := hi.lo; have h2 := hi.some; have h3 := hi.hi; have h4 := hi.few
  by_cases hb : inB B at_ n = true
  · have HF := Box.mk hf; have HP := Box.mk h
    have RD := Box.mk (fun w hf => rread_any p bb cb s (512 * F + at_) n w hf hok (by rw [inB_iff] at hb; omega) bn)
    have RE := readV_in hok hi hb
    unfold readV at RE
    rw [RE] at RD
    clear RE
    generalize preadV s F B at_ n = V at RD ⊢
    obtain ⟨V1, V2⟩ := V
    dsimp only at RD ⊢
    rw [hb] at PL
    have hwF : IntKind.i64.wrap (512 * F) = 512 * F := by rw [IntKind.wrap_i64]; omega
    have hwA : IntKind.i64.wrap (512 * F + at_) = 512 * F + at_ := by rw [inB_iff] at hb; rw [IntKind.wrap_i64]; omega
    clear c2 h1 h2 h3 h4 ba bn hi h hok hf hb
    go_enter Try.func39, Try.ntmps39
    go_wp2_with fail
    refine PL.out.mono ?_
    rintro e w1 ⟨rfl, rfl⟩
    clear PL
    go_wp2_with fail
    have ROW := Box.mk (show w.drew.heap[q]? = some (.cells #[.pointer (some ⟨p, 0, none⟩), .int .i64 F, .int .i64 B] 84 (0, 0)) from HP.out.row)
    refine wp_region_mix 16 [.flo, .flo, .flo, .flo, .flo, .flo, .flo, .flo, .flo, .flo, .flo, .flo, .flo, .cha, .flo, .flo] (by kernel_rfl) (by kernel_rfl) rfl ?_
    simp only [List.take, List.zip, List.zipWith]
    try go_frame
    refine gm_move (.tmp 0) (.inl rfl) (.pointer (some ⟨q, 0, none⟩)) rfl ?_
    try go_frame
    refine gm_flo (.pointer (some ⟨q, 0, none⟩)) (fun w1 hw1 => ?_) ?_
    case refine_1 =>
      go_simp
    try go_frame
    refine gm_flo (.pointer (some ⟨q, 0, none⟩)) (fun w1 hw1 => ?_) ?_
    case refine_1 =>
      go_simp
    try go_frame
    refine gm_flo (.pointer (some ⟨p, 0, none⟩)) (fun w1 hw1 => ?_) ?_
    case refine_1 =>
      have e1 : w1.cell? ⟨q, 0, none⟩ = some (.pointer (some ⟨p, 0, none⟩)) := (cell_of_row _ _ _ _ _ _ (hw1.at (by simp) ROW.out)).trans rfl
      go_simp
    try go_frame
    refine gm_move (.tmp 0) (.inl rfl) (.pointer (some ⟨q, 0, none⟩)) rfl ?_
    try go_frame
    refine gm_flo (.pointer (some ⟨q, 0, none⟩)) (fun w1 hw1 => ?_) ?_
    case refine_1 =>
      go_simp
    try go_frame
    refine gm_flo (.pointer (some ⟨q, 1, none⟩)) (fun w1 hw1 => ?_) ?_
    case refine_1 =>
      go_simp
    try go_frame
    refine gm_flo (.pointer (some ⟨q, 1, none⟩)) (fun w1 hw1 => ?_) ?_
    case refine_1 =>
      go_simp
    try go_frame
    refine gm_flo (.int .i64 F) (fun w1 hw1 => ?_) ?_
    case refine_1 =>
      have e1 : w1.cell? ⟨q, 1, none⟩ = some (.int .i64 F) := (cell_of_row _ _ _ _ _ _ (hw1.at (by simp) ROW.out)).trans rfl
      go_simp
    try go_frame
    refine gm_flo (.int .i64 (512 * F)) (fun w1 hw1 => ?_) ?_
    case refine_1 =>
      go_simp
    try go_frame
    refine gm_move (.tmp 1) (.inl rfl) (.int .i64 at_) rfl ?_
    try go_frame
    refine gm_flo (.int .i64 (512 * F + at_)) (fun w1 hw1 => ?_) ?_
    case refine_1 =>
      go_simp
    try go_frame
    refine gm_move (.tmp 2) (.inl rfl) (.int .i64 n) rfl ?_
    try go_frame
    refine gm_call [.pointer (some ⟨p, 0, none⟩), .int .i64 (512 * F + at_), .int .i64 n] (by kernel_rfl) rfl rfl Stb.tt (fun w1 hw1 hF1 => (RD.out w1 (HF.out.upd ((Upd.refl [] w).drew.trans hw1.upd) (by simp) (by simp) (by simp))).mono ?_)
    rintro e w2 ⟨rfl, rfl⟩
    refine ⟨_, rfl, Gr.refl _, ?_⟩
    clear hw1 hF1 w1
    try go_frame
    refine gm_extract (vs := #[.string V1, .int .i64 V2]) (.tmp 26) 0 rfl rfl (.string V1) rfl ?_
    try go_frame
    refine gm_extract (vs := #[.string V1, .int .i64 V2]) (.tmp 26) 1 rfl rfl (.int .i64 V2) rfl ?_
    try go_frame
    refine gm_nil ?_
    intro w9 hw9 hF9
    simp only [List.drop]
    try go_frame
    have HW9 := Box.mk ((Upd.refl [] w).drew.trans hw9.upd); clear hw9 hF9
    go_wp2
    go_ret2
    exact ⟨rfl, HW9.out⟩
  · have hb' : inB B at_ n = false := by simpa using hb
    have E : Box (preadV s F B at_ n = (⟨#[]⟩, 121)) := ⟨by unfold preadV; rw [hb']; rfl⟩
    generalize preadV s F B at_ n = V at E ⊢
    rw [hb'] at PL
    clear c1 c2 h1 h2 h3 h4 ba bn hi h hok hf hb c0 hb'
    obtain ⟨rfl⟩ := E
    go_enter Try.func39, Try.ntmps39
    go_wp2_with fail
    refine PL.out.mono ?_
    rintro e w1 ⟨rfl, rfl⟩
    clear PL
    go_wp2
    go_ret2
    exact ⟨rfl, Upd.refl _ _⟩
set_option maxHeartbeats 1000000 in
theorem rperase_any (q p bb cb : Nat) (F B : Int) (s : FS) (k : Int) (w : World) (hf : Fl 57 w p bb cb s) (hok : s.Ok) (h : RPa w q p F B) (hi : In s.n.length F B) :
    Calls Try.prog 57 #[.pointer (some ⟨q, 0, none⟩), .int .i64 k] w fun e w' => e = .returned (.int .i64 (s.perase F B k).2) ∧ Fl 57 w' p bb cb (s.perase F B k).1 ∧ Upd [p, bb, cb] w w' := by
  obtain ⟨c0, c1, c2⟩ := h.cells
  have HF := Box.mk hf
  by_cases g0 : k < 0
  · have g0' : decide (k < 0) = true := by simpa using g0
    have E : Box (s.perase F B k = (s, 121)) := ⟨by unfold FS.perase; rw [if_neg (by omega)]⟩
    obtain ⟨V, hV⟩ : ∃ V, V = s.perase F B k := ⟨_, rfl⟩
    rw [← hV] at E ⊢
    obtain ⟨rfl⟩ := E
    clear hV c0 c1 hi h hok hf g0
    go_enter Try.func57, Try.ntmps57
    go_wp2
    go_ret
    exact ⟨rfl, HF.out, Upd.refl _ _⟩
  · have g0' : decide (k < 0) = false := by simpa using g0
    by_cases g1 : k < B
    · have g1' : decide (B ≤ k) = false := by simpa using g1
      have hw : IntKind.i64.wrap (F + k) = F + k := by rw [IntKind.wrap_i64]; have := hi.lo; have := hi.hi; have := hi.few; omega
      have E : Box (s.perase F B k = s.erase (F + k)) := ⟨by unfold FS.perase; rw [if_pos (by omega)]⟩
      have ER := Box.mk (fun w h => rerase_any p bb cb s (F + k) w h hok)
      rw [← E.out] at ER
      generalize s.perase F B k = V at ER ⊢
      clear E hi h hok hf g0 g1
      go_enter Try.func57, Try.ntmps57
      go_wp2
      go_still_tail 11, (by kernel_rfl)
      change wpList _ _ _ _ _ w.drew
      go_wp2_with fail
      refine (ER.out _ (HF.out.upd (Upd.refl [] _).drew (by simp) (by simp) (by simp))).mono ?_
      rintro e w1 ⟨rfl, hf1, hu1⟩
      have HF1 := Box.mk hf1; have HU := Box.mk ((Upd.refl [p, bb, cb] w).drew.trans hu1); clear hf1 hu1
      go_wp2
      go_ret
      exact ⟨rfl, HF1.out, HU.out⟩
    · have g1' : decide (B ≤ k) = true := by simpa using g1
      have E : Box (s.perase F B k = (s, 121)) := ⟨by unfold FS.perase; rw [if_neg (by omega)]⟩
      obtain ⟨V, hV⟩ : ∃ V, V = s.perase F B k := ⟨_, rfl⟩
      rw [← hV] at E ⊢
      obtain ⟨rfl⟩ := E
      clear hV c0 c1 hi h hok hf g0 g1
      go_enter Try.func57, Try.ntmps57
      go_wp2
      go_ret
      exact ⟨rfl, HF.out, Upd.refl _ _⟩
end Go.Proofs.Ytopiopomioglfaa
namespace Go.Proofs.Ytopiopomioglfaa
set_option maxRecDepth 100000
set_option linter.unusedVariables false
open Go Go.RowKit

theorem ffs_yes (S : ByteArray) (h : ∀ k (hk : k < S.size), S[k] = 255) : (((ffs S : Nat) : Int) == ((S.size : Nat) : Int)) = true := by
  have : ffs S = S.size := by
    have := ffs_all S.data.toList (fun k hk => by
      have hk' : k < S.size := by simpa using hk
      rw [List.getElem?_eq_getElem hk]; exact congrArg some (h k hk'))
    simpa using this
  rw [beq_iff_eq, this]
theorem ffs_no (S : ByteArray) (k : Nat) (hk : k < S.size) (h : S[k] ≠ 255) : (((ffs S : Nat) : Int) == ((S.size : Nat) : Int)) = false := by
  rw [beq_eq_false_iff_ne]
  intro e
  have e : ffs S = S.size := by omega
  unfold ffs Lib.countByte at e
  have hl : S.data.toList.length = S.size := by simp
  rw [← hl] at e
  have := List.count_eq_length.1 e S[k] (List.getElem_mem (l := S.data.toList) (n := k) (by rw [hl]; exact hk))
  exact h this.symm
set_option maxHeartbeats 1000000 in
theorem rpclean_any (q p bb cb : Nat) (F B : Int) (s : FS) (at_ n : Int) (w : World) (hf : Fl 57 w p bb cb s) (hok : s.Ok) (h : RPa w q p F B) (hi : In s.n.length F B) (ba : -9223372036854775808 ≤ at_ ∧ at_ ≤ 9223372036854775807) (bn : -9223372036854775808 ≤ n ∧ n ≤ 9223372036854775807) :
    Calls Try.prog 56 #[.pointer (some ⟨q, 0, none⟩), .int .i64 at_, .int .i64 n] w fun e w' => e = .returned (.tuple #[.bool (pcleanV s F B at_ n).1, .int .i64 (pcleanV s F B at_ n).2]) ∧ Upd [] w w' := by
  have RD := Box.mk (rpread_any q p bb cb F B s at_ n w hf hok h hi ba bn)
  have SZ : Box ((preadV s F B at_ n).1.size ≤ 131072) := ⟨by
    have h1 := hok.len; have h2 := hok.few
    unfold preadV
    split
    · split
      · show (0 : Nat) ≤ _; omega
      · show ((s.b.drop _).take _).toArray.size ≤ _
        rw [List.size_toArray, List.length_take, List.length_drop]; omega
    · show (0 : Nat) ≤ _; omega⟩
  unfold pcleanV
  generalize preadV s F B at_ n = V at RD SZ ⊢
  obtain ⟨S, x⟩ := V
  dsimp only at RD SZ ⊢
  clear ba bn hi h hok hf
  by_cases hx : x = 0
  · subst hx
    rw [if_pos rfl]
    dsimp only
    have HY := Box.mk (ffs_yes S); have HN := Box.mk (ffs_no S)
    have hS := SZ.out
    generalize (((ffs S : Nat) : Int) == ((S.size : Nat) : Int)) = r at HY HN ⊢
    go_enter Try.func56, Try.ntmps56
    go_wp2_with fail
    refine RD.out.mono ?_
    rintro e w1 ⟨rfl, u1⟩
    have U1 := Box.mk u1; clear u1
    go_wp2_with fail
    go_loop [10] (fun i => ∃ k : Nat, k ≤ S.size ∧ i = .int .i64 k ∧ ∀ j (hj : j < S.size), j < k → S[j] = 255) (fun i => S.size - (intOf i).toNat)
    case atStart => exact ⟨0, by omega, rfl, fun j hj h => by omega⟩
    case round =>
      obtain ⟨k, hk, rfl, hall⟩ := hrel
      have HA := Box.mk hall; clear hall
      by_cases hlt : k < S.size
      · by_cases hb : S[k] = 255
        · have hb2 : ((S[k].toNat : Int) != 255) = false := by rw [hb]; rfl
          have HB := Box.mk hb; clear hb
          go_wp2
          go_round
          case rel => exact ⟨k + 1, by omega, by go_num, fun j hj h => by
            by_cases e : j = k
            · subst e; exact HB.out
            · exact HA.out j hj (by omega)⟩
          case measure => simp [intOf]; omega
        · have hb2 : ((S[k].toNat : Int) != 255) = true := by
            rw [bne_iff_ne]; intro e; apply hb; apply UInt8.toNat_inj.1; show _ = 255; omega
          have E := Box.mk (HN.out k hlt hb); clear hb
          go_wp2
          go_ret2
          exact ⟨by rw [E.out]; rfl, U1.out⟩
      · have E := Box.mk (HY.out (fun j hj => HA.out j hj (by omega)))
        go_wp2
        go_ret2
        exact ⟨by rw [E.out]; rfl, U1.out⟩
  · have hxb : (x != 0) = true := by rw [bne_iff_ne]; exact hx
    rw [if_neg hx]
    clear hx
    go_enter Try.func56, Try.ntmps56
    go_wp2_with fail
    refine RD.out.mono ?_
    rintro e w1 ⟨rfl, u1⟩
    have U1 := Box.mk u1; clear u1
    go_wp2
    go_ret2
    exact ⟨rfl, U1.out⟩

/-- What holds at the head of Write's loop. -/
structure WrS (t : TypeId) (w wr : World) (R : FS × Int) (s0 : FS) (l : List UInt8) (A p bb cb : Nat) (s : FS) (f i : Nat) : Prop where
  ok : s.Ok
  nn : s.n.length = s0.n.length
  fl : Fl t wr p bb cb s
  up : Upd [p, bb] w wr
  fi : f ≤ l.length ∧ 1 ≤ i ∧ i ≤ l.length + 1
  go : i ≤ l.length → f < i ∧ (i - f) ≤ 64 - (A + f) % 64
  en : i = l.length + 1 → f = l.length
  pw : ∃ k, l.length - f ≤ k ∧ FS.pw k s ((A + f : Nat) : Int) (l.drop f) = R
theorem ext_drop (t : ByteArray) (f i : Nat) (hi : i ≤ t.size) (hf : f ≤ i) : (t.extract f i).data.toList = (t.data.toList.drop f).take (i - f) := by
  rw [ByteArray.data_extract, Array.toList_extract, List.extract_eq_take_drop]
set_option maxRecDepth 100000 in
set_option maxHeartbeats 2000000 in
theorem rpwrite_any (q p bb cb : Nat) (F B : Int) (s : FS) (at_ : Int) (str : ByteArray) (w : World) (hf : Fl 57 w p bb cb s) (hok : s.Ok) (h : RPa w q p F B) (hi : In s.n.length F B) (hqb : q ≠ bb) (hqp : q ≠ p) (ba : -9223372036854775808 ≤ at_ ∧ at_ ≤ 9223372036854775807) (hs : str.size ≤ 9223372036854775807) :
    Calls Try.prog 58 #[.pointer (some ⟨q, 0, none⟩), .int .i64 at_, .string str] w fun e w' => e = .returned (.int .i64 (s.pwrite F B at_ str.data.toList).2) ∧ Fl 57 w' p bb cb (s.pwrite F B at_ str.data.toList).1 ∧ Upd [p, bb] w w' := by
  have PL := Box.mk (rin_any q p F B _ at_ str.size w h hi ba (by omega))
  have hlen : str.data.toList.length = str.size := by simp
  by_cases hb : inB B at_ str.size = true
  · have hin := hb
    rw [inB_iff] at hin
    rw [hb] at PL
    have h1 := hi.lo; have h2 := hi.hi; have h3 := hi.few
    obtain ⟨a, rfl⟩ : ∃ a : Nat, at_ = a := ⟨at_.toNat, by omega⟩
    obtain ⟨A, hA⟩ : ∃ A : Nat, 512 * F + (a : Int) = A := ⟨(512 * F + a).toNat, by omega⟩
    have E : s.pwrite F B a str.data.toList = FS.pw str.size s (A : Int) str.data.toList := by unfold FS.pwrite; rw [hlen, hb, if_pos rfl, hA]
    rw [E]
    obtain ⟨R, hR⟩ : ∃ R, R = FS.pw str.size s (A : Int) str.data.toList := ⟨_, rfl⟩
    rw [← hR]
    have ST0 := Box.mk (show WrS 57 w w R s str.data.toList A p bb cb s 0 1 from ⟨hok, rfl, hf, Upd.refl _ _, by omega, fun h => by omega, fun h => by omega, str.size, by omega, by rw [List.drop_zero]; exact hR.symm⟩)
    have HP := Box.mk h; have HA := Box.mk hA
    have hwF : IntKind.i64.wrap (512 * F) = 512 * F := by rw [IntKind.wrap_i64]; omega
    have hwA : IntKind.i64.wrap (512 * F + (a : Int)) = (A : Int) := by rw [IntKind.wrap_i64]; omega
    have hbd : a + str.size ≤ 131072 ∧ A + str.size ≤ 131072 ∧ (A : Int) % 64 = (a : Int) % 64 := by omega
    have HBD := Box.mk hbd
    have hsz : (str.size : Int) ≤ 131072 ∧ (a : Int) ≤ 131072 ∧ (A : Int) ≤ 131072 := by omega
    obtain ⟨hsz1, hsz2, hsz3⟩ := hsz
    clear E hb hlen hR hf h hok hi hin hs ba hA h1 h2 h3 hbd
    go_enter Try.func58, Try.ntmps58
    go_wp2_with fail
    refine PL.out.mono ?_
    rintro e w1 ⟨rfl, rfl⟩
    clear PL
    go_wp2_with fail
    go_loopw [7, 8] (fun x y wr => ∃ (f i : Nat) (s' : FS), x = .int .i64 f ∧ y = .int .i64 i ∧ WrS 57 w wr R s str.data.toList A p bb cb s' f i) (fun _ y _ => str.size + 1 - (intOf y).toNat)
    case atStart => exact ⟨0, 1, s, rfl, rfl, ST0.out⟩
    case round =>
      clear ST0
      obtain ⟨f, i, s', rfl, rfl, st⟩ := hrel
      have hlen : str.data.toList.length = str.size := by simp
      have hfi := st.fi
      rw [hlen] at hfi
      obtain ⟨hf1, hi1, hi2⟩ := hfi
      have ST := Box.mk st
      have CU := Box.mk (HP.out.upd st.up (by simp [hqp, hqb]))
      by_cases hle : i ≤ str.size
      · have hleI : (i : Int) ≤ (str.size : Int) := by omega
        have hw1 : IntKind.i64.wrap ((a : Int) + (i : Int)) = (a : Int) + (i : Int) := by rw [IntKind.wrap_i64]; omega
        obtain ⟨go1, go2⟩ := st.go (by rw [hlen]; exact hle)
        obtain ⟨k, hk, hpw⟩ := st.pw
        rw [hlen] at hk
        clear st
        by_cases hc : i < str.size ∧ (a + i) % 64 ≠ 0
        · have hc1 : (i : Int) < (str.size : Int) := by omega
          have hc2 : (((a : Int) + (i : Int)) % 64 != 0) = true := by rw [bne_iff_ne]; omega
          have ST2 := Box.mk (show WrS 57 w wr R s str.data.toList A p bb cb s' f (i + 1) from ⟨ST.out.ok, ST.out.nn, ST.out.fl, ST.out.up, by omega, fun _ => by have := HBD.out; omega, fun h => by omega, ST.out.pw⟩)
          clear hc hlen hk hpw go1 go2 ST
          go_wp2_with fail
          exact ⟨⟨f, i + 1, s', rfl, by go_num, ST2.out⟩, by simp [intOf]; omega⟩
        · obtain ⟨m, hm⟩ : ∃ m, m = i - f := ⟨_, rfl⟩
          have hmm : m = min (str.size - f) (64 - ((A + f : Nat) : Int) % 64).toNat := by have := HBD.out; omega
          obtain ⟨k', rfl⟩ : ∃ k', k = k' + 1 := ⟨k - 1, by omega⟩
          have hdl : (str.data.toList.drop f).length = str.size - f := by rw [List.length_drop, hlen]
          have hne : str.data.toList.drop f ≠ [] := by intro h; rw [h] at hdl; simp at hdl; omega
          have hmq : min (str.data.toList.drop f).length (64 - (((A + f : Nat) : Int) % 64).toNat) = m := by rw [hdl]; omega
          rw [FS.pw_step _ _ _ _ hne, hmq, List.drop_drop] at hpw
          have hul := ext_drop str f i hle (by omega)
          rw [← hm] at hul
          have hus : (str.extract f i).size = m := by rw [ByteArray.size_extract]; omega
          rw [← hul] at hpw
          have PR := Box.mk (fun w h => rprogram_any p bb cb s' ((A + f : Nat) : Int) (str.extract f i) w h ST.out.ok (by omega) (by omega))
          have OK2 := Box.mk (FS.program_ok ST.out.ok ((A + f : Nat) : Int) (str.extract f i).data.toList)
          have N2 := Box.mk (FS.program_n s' ((A + f : Nat) : Int) (str.extract f i).data.toList)
          have hw2 : IntKind.i64.wrap ((A : Int) + (f : Int)) = ((A + f : Nat) : Int) := by rw [IntKind.wrap_i64]; omega
          have hfm : f + m = i := by omega
          rw [hfm, show ((A + f : Nat) : Int) + (m : Nat) = ((A + i : Nat) : Int) from by omega] at hpw
          have hfi2 : (f : Int) ≤ (i : Int) := by omega
          have ROW := Box.mk (show wr.drew.heap[q]? = some (.cells #[.pointer (some ⟨p, 0, none⟩), .int .i64 F, .int .i64 B] 84 (0, 0)) from CU.out.row)
          have NQ : Box (q ∉ [p, bb]) := ⟨by simp [hqp, hqb]⟩
          have FD := Box.mk (ST.out.fl.upd (Upd.refl [] wr).drew (by simp) (by simp) (by simp))
          have LTS : Box (∀ k ∈ [p, bb], k < wr.heap.size) := ⟨by have := ST.out.fl.lt; intro k hk; simp at hk; omega⟩
          generalize s'.program ((A + f : Nat) : Int) (str.extract f i).data.toList = r at PR OK2 N2 hpw
          obtain ⟨r1, r2⟩ := r
          dsimp only at PR OK2 N2 hpw
          have HPW := Box.mk hpw; have HC := Box.mk hc; have HK := Box.mk hk; have GO := Box.mk (show i ≤ str.size ∧ f < i from ⟨hle, go1⟩)
          by_cases hc1 : i < str.size
          all_goals
            have hc1I : decide ((i : Int) < (str.size : Int)) = decide (i < str.size) := by rw [decide_eq_decide]; omega
            first
            | (have hcI : decide ((i : Int) < (str.size : Int)) = true := by simpa using hc1)
            | (have hcI : decide ((i : Int) < (str.size : Int)) = false := by simpa using hc1)
            have hc2 : i < str.size → (((a : Int) + (i : Int)) % 64 != 0) = false := fun h => by rw [bne_eq_false_iff_eq]; have := HC.out; omega
            first
            | (have hc3 := hc2 hc1)
            | skip
            clear hc2 hc1I hpw hul hus hmq hne hdl hmm hm hfm hc hk hlen go1 go2 hle
            go_upto_region 8 with (fail)
            refine wp_region_mixS [p, bb] (fun w => Fl 57 w p bb cb s') (fun w w' hg h => h.upd hg.upd (by simp) (by simp) (by simp)) (FD.out) (LTS.out) 19 [.flo, .flo, .flo, .flo, .flo, .flo, .flo, .flo, .flo, .flo, .flo, .flo, .flo, .flo, .flo, .flo, .flo, .flo, .cha] (by kernel_rfl) (by kernel_rfl) rfl ?_
            simp only [List.take, List.zip, List.zipWith]
            try go_frame
            refine gm_move (.tmp 0) (.inl rfl) (.pointer (some ⟨q, 0, none⟩)) rfl ?_
            try go_frame
            refine gm_flo (.pointer (some ⟨q, 0, none⟩)) (fun w1 hw1 => ?_) ?_
            case refine_1 =>
              go_simp
            try go_frame
            refine gm_flo (.pointer (some ⟨q, 0, none⟩)) (fun w1 hw1 => ?_) ?_
            case refine_1 =>
              go_simp
            try go_frame
            refine gm_flo (.pointer (some ⟨p, 0, none⟩)) (fun w1 hw1 => ?_) ?_
            case refine_1 =>
              have e1 : w1.cell? ⟨q, 0, none⟩ = some (.pointer (some ⟨p, 0, none⟩)) := (cell_of_row _ _ _ _ _ _ (hw1.at NQ.out ROW.out)).trans rfl
              go_simp
            try go_frame
            refine gm_move (.tmp 0) (.inl rfl) (.pointer (some ⟨q, 0, none⟩)) rfl ?_
            try go_frame
            refine gm_flo (.pointer (some ⟨q, 0, none⟩)) (fun w1 hw1 => ?_) ?_
            case refine_1 =>
              go_simp
            try go_frame
            refine gm_flo (.pointer (some ⟨q, 1, none⟩)) (fun w1 hw1 => ?_) ?_
            case refine_1 =>
              go_simp
            try go_frame
            refine gm_flo (.pointer (some ⟨q, 1, none⟩)) (fun w1 hw1 => ?_) ?_
            case refine_1 =>
              go_simp
            try go_frame
            refine gm_flo (.int .i64 F) (fun w1 hw1 => ?_) ?_
            case refine_1 =>
              have e1 : w1.cell? ⟨q, 1, none⟩ = some (.int .i64 F) := (cell_of_row _ _ _ _ _ _ (hw1.at NQ.out ROW.out)).trans rfl
              go_simp
            try go_frame
            refine gm_flo (.int .i64 (512 * F)) (fun w1 hw1 => ?_) ?_
            case refine_1 =>
              go_simp
            try go_frame
            refine gm_move (.tmp 1) (.inl rfl) (.int .i64 (a : Nat)) rfl ?_
            try go_frame
            refine gm_flo (.int .i64 (A : Nat)) (fun w1 hw1 => ?_) ?_
            case refine_1 =>
              go_simp
            try go_frame
            refine gm_move (.tmp 7) (.inl rfl) (.int .i64 (f : Nat)) rfl ?_
            try go_frame
            refine gm_flo (.int .i64 ((A + f : Nat) : Int)) (fun w1 hw1 => ?_) ?_
            case refine_1 =>
              go_simp
            try go_frame
            refine gm_move (.tmp 2) (.inl rfl) (.string str) rfl ?_
            try go_frame
            refine gm_move (.tmp 7) (.inl rfl) (.int .i64 (f : Nat)) rfl ?_
            try go_frame
            refine gm_move (.tmp 8) (.inl rfl) (.int .i64 (i : Nat)) rfl ?_
            try go_frame
            refine gm_flo (.string (str.extract f i)) (fun w1 hw1 => ?_) ?_
            case refine_1 =>
              go_simp
            try go_frame
            refine gm_callS [.pointer (some ⟨p, 0, none⟩), .int .i64 ((A + f : Nat) : Int), .string (str.extract f i)] (by kernel_rfl) rfl rfl (fun w1 hw1 hF1 => (PR.out _ hF1).mono ?_)
            rintro e w2 ⟨rfl, hf, hu⟩
            refine ⟨_, rfl, GrS.of_upd hu (by simp), (fun w => Fl 57 w p bb cb r1), (fun w w' hg h => h.upd hg.upd (by simp) (by simp) (by simp)), (hf), ?_⟩
            clear hw1 hF1 hf hu w1 w2
            try go_frame
            refine gm_nil ?_
            intro w9 hw9 hF9
            simp only [List.drop]
            try go_frame
            have H9 := Box.mk hF9; have U9 := Box.mk ((ST.out.up.trans (Upd.refl [p, bb] wr).drew).trans hw9.upd)
            clear hF9 hw9
            by_cases hr : r2 = 0
            · have hrb : (r2 != 0) = false := by simpa using hr
              have HR := Box.mk hr; clear hr
              go_wp2_with fail
              refine ⟨⟨i, i + 1, r1, rfl, by go_num, OK2.out, N2.out.trans ST.out.nn, H9.out, U9.out, by simp; have := GO.out; omega, fun h => by simp at h; omega, fun h => by simp at h ⊢; have := GO.out; omega, k', by simp; have := HK.out; have := GO.out; omega, ?_⟩, by simp [intOf]; have := GO.out; omega⟩
              have := HPW.out
              rw [if_neg (by rw [HR.out]; simp)] at this
              exact this
            · have hrb : (r2 != 0) = true := by rw [bne_iff_ne]; exact hr
              have HR : Box ((r1, r2) = R) := ⟨by have := HPW.out; rwa [if_pos hr] at this⟩
              clear hr HPW
              go_wp2_with fail
              go_ret
              obtain ⟨rfl⟩ := HR
              exact ⟨rfl, H9.out, U9.out⟩
      · have hen := st.en (by rw [hlen]; omega)
        obtain ⟨k, hk, hpw⟩ := st.pw
        rw [hen, List.drop_length, FS.pw_nil] at hpw
        have HR := Box.mk hpw
        have hleI : ¬ (i : Int) ≤ (str.size : Int) := by omega
        clear st hpw hk hen hlen
        go_wp2_with fail
        go_ret
        obtain ⟨rfl⟩ := HR
        exact ⟨rfl, ST.out.fl, ST.out.up⟩
  · have hb' : inB B at_ str.size = false := by simpa using hb
    have E : Box (s.pwrite F B at_ str.data.toList = (s, 121)) := ⟨by unfold FS.pwrite; rw [hlen, hb']; rfl⟩
    obtain ⟨R, hR⟩ : ∃ R, R = s.pwrite F B at_ str.data.toList := ⟨_, rfl⟩
    rw [← hR] at E ⊢
    obtain ⟨rfl⟩ := E
    have HF := Box.mk hf
    rw [hb'] at PL
    clear hR hlen hf h hok hi hs ba hb hb'
    go_enter Try.func58, Try.ntmps58
    go_wp2_with fail
    refine PL.out.mono ?_
    rintro e w1 ⟨rfl, rfl⟩
    clear PL
    go_wp2_with fail
    go_ret
    exact ⟨rfl, HF.out, Upd.refl _ _⟩
end Go.Proofs.Ytopiopomioglfaa
