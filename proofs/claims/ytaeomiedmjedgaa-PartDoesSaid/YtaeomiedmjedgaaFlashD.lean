/- The flash: what tells its state, and what turns the power. -/
import Derived.Test.YtaeomiedmjedgaaFlashC
namespace Go.Proofs.Ytaeomiedmjedgaa
set_option linter.unusedVariables false
open Go Go.RowKit

/-- string(b) of bytes that lie in a row from off on. -/
theorem run_bytes_at (P : Program) (w : World) (b off cap : Nat) (l : List UInt8) (src dst e : TypeId) (n : Nat) (hn : l.length = n)
    (hs : P.underlying src = some (.slice e)) (he : P.underlying e = some (.int .u8)) (hd : P.underlying dst = some .string)
    (hg : ∀ j u, l[j]? = some u → w.cell? ⟨b, off + j, none⟩ = some (.int .u8 (u.toNat : Int))) :
    (convert src dst (.slice (some ⟨b, off, none⟩) n cap)).run P w = .ok (.string ⟨l.toArray⟩) w := by
  subst hn
  rw [run_convert_bytes_string w src dst e _ _ _ hs he hd]
  have h := run_loadCells_list (P := P) (w := w) ⟨b, off, none⟩ ((l.map fun u => (u.toNat : Int)).map (Value.int .u8)) (by
    intro j v hj
    have : (⟨b, off, none⟩ : Addr).add j = ⟨b, off + j, none⟩ := by unfold Addr.add; split <;> simp_all
    rw [this]
    rw [List.getElem?_map, List.getElem?_map] at hj
    cases hl : l[j]? with
    | none => rw [hl] at hj; simp at hj
    | some u => rw [hl] at hj; simp at hj; subst hj; exact hg j u hl)
  rw [List.length_map, List.length_map] at h
  rw [run_bytesToString w _ _ _ _ h]
  have : ∀ (l : List UInt8) (acc : ByteArray), (l.map fun u => (u.toNat : Int)).foldl (fun r n => r.push (UInt8.ofNat n.toNat)) acc = ⟨(acc.data.toList ++ l).toArray⟩ := by
    intro l
    induction l with
    | nil => intro acc; simp
    | cons c l ih => intro acc; simp only [List.map_cons, List.foldl_cons]; rw [ih]; simp [ByteArray.push]
  rw [this]
  rfl

theorem steps_any (p bb cb : Nat) (s : FS) (w : World) (h : Fl 75 w p bb cb s) :
    Calls Try.prog 20 #[.pointer (some ⟨p, 0, none⟩)] w fun e w' => e = .returned (.int .i64 s.steps) ∧ w = w' := by
  obtain ⟨bcap, ccap, hb, hc, c0, c1, c2, c3, c4, c5, c6⟩ := h.cells
  clear c0 c1 c3 c4 c5 c6 hb hc
  go_enter Try.func20, Try.ntmps20
  go_wp2
  go_ret
  exact ⟨rfl, rfl⟩
theorem dead_any (p bb cb : Nat) (s : FS) (w : World) (h : Fl 75 w p bb cb s) :
    Calls Try.prog 55 #[.pointer (some ⟨p, 0, none⟩)] w fun e w' => e = .returned (.bool s.dead) ∧ w = w' := by
  obtain ⟨bcap, ccap, hb, hc, c0, c1, c2, c3, c4, c5, c6⟩ := h.cells
  clear c0 c1 c2 c3 c4 c5 hb hc
  go_enter Try.func55, Try.ntmps55
  go_wp2
  go_ret
  exact ⟨rfl, rfl⟩
/-- How often a block was erased. -/
@[irreducible] def FS.count (s : FS) (block : Int) : Int := if 0 ≤ block then s.n.getD block.toNat 0 else 0
theorem count_any (p bb cb : Nat) (s : FS) (block : Int) (w : World) (h : Fl 75 w p bb cb s) (hok : s.Ok) :
    Calls Try.prog 54 #[.pointer (some ⟨p, 0, none⟩), .int .i64 block] w fun e w' => e = .returned (.int .i64 (s.count block)) ∧ w = w' := by
  have HF := Box.mk h
  have hfew := hok.few
  obtain ⟨bcap, ccap, hb, hc, c0, c1, c2, c3, c4, c5, c6⟩ := h.cells
  clear c0 c2 c3 c4 c5 c6 hb hc h
  by_cases h0 : block < 0
  · have h0' : decide (block < 0) = true := by simpa using h0
    have E : Box (s.count block = 0) := ⟨by unfold FS.count; rw [if_neg (by omega)]⟩
    go_enter Try.func54, Try.ntmps54
    go_wp2
    go_ret
    exact ⟨by rw [E.out]; rfl, rfl⟩
  · have h0' : decide (block < 0) = false := by simpa using h0
    obtain ⟨K, rfl⟩ := Int.eq_ofNat_of_zero_le (by omega : 0 ≤ block)
    by_cases h1 : K < s.n.length
    · obtain ⟨u, hu⟩ : ∃ u, s.n[K]? = some u := ⟨_, List.getElem?_eq_getElem h1⟩
      have E : Box (s.count K = u) := ⟨by unfold FS.count; rw [if_pos (by omega), Int.toNat_natCast, List.getD_eq_getElem?_getD, hu]; rfl⟩
      obtain ⟨e1, _⟩ := HF.out.count K u hu
      have h1' : (K : Int) < (s.n.length : Int) := by omega
      clear hu h0
      go_enter Try.func54, Try.ntmps54
      go_wp2_with fail
      refine (blocks_any p bb cb s _ HF.out).mono ?_
      rintro e w1 ⟨rfl, rfl⟩
      go_wp2
      go_ret
      exact ⟨by rw [E.out]; rfl, rfl⟩
    · have E : Box (s.count K = 0) := ⟨by unfold FS.count; rw [if_pos (by omega), Int.toNat_natCast, List.getD_eq_getElem?_getD, List.getElem?_eq_none (by omega)]; rfl⟩
      have h1' : ((s.n.length : Nat) : Int) ≤ (K : Int) := by omega
      clear h0
      go_enter Try.func54, Try.ntmps54
      go_wp2_with fail
      refine (blocks_any p bb cb s _ HF.out).mono ?_
      rintro e w1 ⟨rfl, rfl⟩
      go_wp2
      go_ret
      exact ⟨by rw [E.out]; rfl, rfl⟩

/-- The power goes; it comes back. -/
def FS.off (s : FS) : FS := { s with dead := true, armed := 0 }
def FS.back (s : FS) : FS := { s with dead := false, armed := 0 }
set_option maxHeartbeats 400000 in
theorem revive_any (p bb cb : Nat) (s : FS) (w : World) (h : Fl 75 w p bb cb s) :
    Calls Try.prog 24 #[.pointer (some ⟨p, 0, none⟩)] w fun e w' => e = .returned (.tuple #[]) ∧ Fl 75 w' p bb cb s.back ∧ Upd [p] w w' := by
  obtain ⟨bcap, ccap, hb, hc, c0, c1, c2, c3, c4, c5, c6⟩ := h.cells
  have f3 := h.free 3; have f6 := h.free 6
  have HF := Box.mk h
  clear c0 c1 c2 c4 c5 hb hc h
  go_enter Try.func24, Try.ntmps24
  go_wp2
  go_end0
  exact ⟨rfl, (HF.out.set6 false).set3 0, ((Upd.refl _ _).setCell (by simp) _).setCell (by simp) _⟩
set_option maxHeartbeats 400000 in
theorem image_any (p bb cb : Nat) (s : FS) (w : World) (h : Fl 75 w p bb cb s) :
    Calls Try.prog 19 #[.pointer (some ⟨p, 0, none⟩)] w fun e w' => e = .returned (.string ⟨s.b.toArray⟩) ∧ w = w' := by
  obtain ⟨bcap, ccap, hb, hc, c0, c1, c2, c3, c4, c5, c6⟩ := h.cells
  have hcv := run_bytes_at Try.prog w bb 0 bcap s.b 52 9 5 _ rfl Try.underlying52 Try.underlying5 Try.underlying9 (fun j u hu => by rw [Nat.zero_add]; exact (h.byte j u hu).1)
  clear c1 c2 c3 c4 c5 c6 hb hc h
  go_enter Try.func19, Try.ntmps19
  go_wp2
  go_ret
  exact ⟨rfl, rfl⟩

/-- The next failure is laid. -/
def FS.arm (s : FS) (n keep : Int) (mask : UInt8) : FS × Int :=
  if s.dead then (s, 2) else if n < 0 then (s, 1) else ({ s with armed := n, keep := max 0 keep, mask := mask }, 0)
theorem FS.arm_ok {s : FS} (h : s.Ok) (n keep : Int) (mask : UInt8) (hn : n ≤ 9223372036854775807) (hk : keep ≤ 9223372036854775807) : (s.arm n keep mask).1.Ok := by
  unfold FS.arm
  (repeat' split) <;> first | exact h | exact ⟨⟨by simp only; omega, hn⟩, ⟨by simp only; omega, by simp only; omega⟩, h.len, h.few⟩
set_option maxHeartbeats 1000000 in
theorem arm_any (p bb cb : Nat) (s : FS) (n keep : Int) (mask : UInt8) (w : World) (h : Fl 75 w p bb cb s) (hk : -9223372036854775808 ≤ keep ∧ keep ≤ 9223372036854775807) :
    Calls Try.prog 23 #[.pointer (some ⟨p, 0, none⟩), .int .i64 n, .int .i64 keep, .int .u8 (mask.toNat : Int)] w fun e w' => e = .returned (.int .i64 (s.arm n keep mask).2) ∧ Fl 75 w' p bb cb (s.arm n keep mask).1 ∧ Upd [p] w w' := by
  obtain ⟨bcap, ccap, hb, hc, c0, c1, c2, c3, c4, c5, c6⟩ := h.cells
  have f3 := h.free 3; have f4 := h.free 4; have f5 := h.free 5
  have HF := Box.mk h
  clear c0 c1 c2 hb hc h
  by_cases hd : s.dead = true
  · have E : Box (s.arm n keep mask = (s, 2)) := ⟨by unfold FS.arm; rw [if_pos hd]⟩
    rw [hd] at c6; clear hd
    rw [E.out]
    go_enter Try.func23, Try.ntmps23
    go_wp2
    go_ret
    exact ⟨rfl, HF.out, Upd.refl _ _⟩
  · have hd' : s.dead = false := by simpa using hd
    by_cases hn : n < 0
    · have E : Box (s.arm n keep mask = (s, 1)) := ⟨by unfold FS.arm; rw [if_neg hd, if_pos hn]⟩
      rw [hd'] at c6; clear hd hd'
      rw [E.out]
      go_enter Try.func23, Try.ntmps23
      go_wp2
      go_ret
      exact ⟨rfl, HF.out, Upd.refl _ _⟩
    · have E : Box (s.arm n keep mask = ({ s with armed := n, keep := max 0 keep, mask := mask }, 0)) := ⟨by unfold FS.arm; rw [if_neg hd, if_neg hn]⟩
      rw [hd'] at c6; clear hd hd'
      rw [E.out]
      go_enter Try.func23, Try.ntmps23
      go_wp2
      · go_ret
        have hm : max 0 keep = keep := by omega
        exact ⟨rfl, (((HF.out.set3 n).set4 keep).set5 mask).to (by rw [hm]), (((Upd.refl _ _).setCell (by simp) _).setCell (by simp) _).setCell (by simp) _⟩
      · go_ret
        have hm : max 0 keep = 0 := by omega
        exact ⟨rfl, (((HF.out.set3 n).set4 0).set5 mask).to (by rw [hm]), (((Upd.refl _ _).setCell (by simp) _).setCell (by simp) _).setCell (by simp) _⟩
set_option maxHeartbeats 1000000 in
theorem read_any (p bb cb : Nat) (s : FS) (at_ n : Int) (w : World) (h : Fl 75 w p bb cb s) (hok : s.Ok) (ba : -9223372036854775808 ≤ at_ ∧ at_ ≤ 9223372036854775807) (bn : -9223372036854775808 ≤ n ∧ n ≤ 9223372036854775807) :
    Calls Try.prog 40 #[.pointer (some ⟨p, 0, none⟩), .int .i64 at_, .int .i64 n] w fun e w' => e = .returned (if s.dead then .tuple #[.string ⟨#[]⟩, .int .i64 2] else if onB s.b.length at_ n then .tuple #[.string ⟨((s.b.drop at_.toNat).take n.toNat).toArray⟩, .int .i64 0] else .tuple #[.string ⟨#[]⟩, .int .i64 111]) ∧ w = w' := by
  have HF := Box.mk h
  obtain ⟨bcap, ccap, hb, hc, c0, c1, c2, c3, c4, c5, c6⟩ := h.cells
  have hby := Box.mk (fun j u hu => (h.byte j u hu).1)
  clear c1 c2 c3 c4 c5 hc h
  by_cases hd : s.dead = true
  · rw [if_pos hd]
    rw [hd] at c6; clear hd
    go_enter Try.func40, Try.ntmps40
    go_wp2
    go_ret2
    exact ⟨rfl, rfl⟩
  · rw [if_neg hd]
    have hd' : s.dead = false := by simpa using hd
    rw [hd'] at c6; clear hd hd'
    by_cases ho : onB s.b.length at_ n = true
    · rw [if_pos ho]
      have hon : 0 ≤ at_ ∧ 0 ≤ n ∧ at_ + n ≤ s.b.length := by unfold onB at ho; simpa using ho
      obtain ⟨A, rfl⟩ := Int.eq_ofNat_of_zero_le hon.1
      obtain ⟨N, rfl⟩ := Int.eq_ofNat_of_zero_le hon.2.1
      have hlb : (s.b.length : Int) ≤ 131072 := by have := hok.len; have := hok.few; omega
      have hln : ((s.b.drop A).take N).length = N := by simp; omega
      have hcv := run_bytes_at Try.prog w bb A (bcap - A) ((s.b.drop A).take N) 52 9 5 N hln Try.underlying52 Try.underlying5 Try.underlying9 (fun j u hu => by
        have hj : j < N := by have := (List.getElem?_eq_some_iff.1 hu).1; rw [hln] at this; exact this
        rw [List.getElem?_take, if_pos hj, List.getElem?_drop] at hu
        exact hby.out _ _ hu)
      have HO := Box.mk ho; clear ho hln hby
      have hbI : ((s.b.length : Nat) : Int) ≤ (bcap : Int) := by omega
      have hANI : (A : Int) + (N : Int) ≤ (bcap : Int) := by omega
      go_enter Try.func40, Try.ntmps40
      go_wp2_with fail
      refine (within_any p bb cb s A N _ HF.out hok (by omega) (by omega)).mono ?_
      rintro e w1 ⟨rfl, rfl⟩
      rw [HO.out]
      have hcv2 : bcap = A → (convert 52 9 (.slice (some ⟨bb, 0, none⟩) N 0)).run Try.prog w = .ok (.string ⟨((s.b.drop A).take N).toArray⟩) w := fun e => by
        have hN : N = 0 := by omega
        subst hN
        have := run_bytes_at Try.prog w bb 0 0 [] 52 9 5 0 rfl Try.underlying52 Try.underlying5 Try.underlying9 (fun j u hu => by simp at hu)
        rw [this]; simp
      by_cases hcA : bcap = A
      · have hcv2 := hcv2 hcA
        go_wp2
        go_ret2
        exact ⟨rfl, rfl⟩
      · clear hcv2
        go_wp2
        go_ret2
        exact ⟨rfl, rfl⟩
    · rw [if_neg ho]
      have ho' : onB s.b.length at_ n = false := by simpa using ho
      have HO := Box.mk ho'; clear ho ho' hby
      go_enter Try.func40, Try.ntmps40
      go_wp2_with fail
      refine (within_any p bb cb s at_ n _ HF.out hok ba bn).mono ?_
      rintro e w1 ⟨rfl, rfl⟩
      rw [HO.out]
      go_wp2
      go_ret2
      exact ⟨rfl, rfl⟩
end Go.Proofs.Ytaeomiedmjedgaa
