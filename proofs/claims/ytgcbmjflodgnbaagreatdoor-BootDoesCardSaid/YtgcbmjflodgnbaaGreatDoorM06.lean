/- Boot: keep. Logs: plain laws of a block's records. The flash: a torn step: plain laws. The flash: which bits a call may set or clear: plain laws. Logs: what writing, erasing and making a segment leave, torn or not. Logs: what a record's pages leave, torn or not. -/
import Derived.Test.YtgcbmjflodgnbaaGreatDoorM05
import Derived.Test.YtgcbmjflodgnbaaGreatDoorM02
import Derived.Laws.BitsAllLaws
import Derived.Test.YtgcbmjflodgnbaaGreatDoorM04
namespace Go.Proofs.YtgcbmjflodgnbaaGreatDoor
set_option maxRecDepth 100000
set_option linter.unusedVariables false
open Go Go.RowKit

theorem bpwrite_any (g q p bb cb F : Nat) (s : FS) (t : BS) (a : Nat) (l : List UInt8) (w : World) (h : BtS w F g q p bb cb s t) (ha : a ≤ 1000000) (hl : l.length ≤ 1000000) :
    Calls Tryz.prog 63 #[.pointer (some ⟨q, 0, none⟩), .int .i64 (a : Nat), .string ⟨l.toArray⟩] w fun e w' => e = .returned (.int .i64 (s.pwrite F 2 a l).2) ∧ BtS w' F g q p bb cb (s.pwrite F 2 a l).1 t ∧ Upd [p, bb, cb] w w' :=
  (pwrite_any q p bb cb F 2 s a ⟨l.toArray⟩ w h.f h.ok h.pa h.i h.ap.nm.2.2.2.2.2.1 h.ap.nm.2.2.2.2.1 (by omega) (by show (l.toArray.size : Nat) ≤ _; rw [List.size_toArray]; omega)).mono fun e w' ⟨he, hf, hu⟩ => ⟨he, h.flash hf (FS.pwrite_ok h.ok F 2 a _).1 (FS.pwrite_ok h.ok F 2 a _).2 (hu.mono (by simp)), hu.mono (by simp)⟩
theorem boot_range {w : World} {b : Nat} {r : BR} {ty : TypeId} (h : w.heap[b]? = some (.cells (brC r) ty (0, 0))) : w.rangeAt b 0 (brC r).toList := fun j v hj => by
  rw [Nat.zero_add, cell_of_row _ _ _ _ _ _ h]
  simpa using hj
theorem load_boot {w : World} {b : Nat} {r : BR} (h : w.heap[b]? = some (.cells (brC r) 24 (0, 0))) : (Instr.loadAt 24 (.pointer (some ⟨b, 0, none⟩))).run Tryz.prog w = .ok (.agg (brC r)) w := by
  have := run_loadAt_mid (P := Tryz.prog) w b 0 24 (brC r).toList _ (boot_range h) Tryz.underlying24 rfl (by kernel_rfl)
  simpa using this
theorem Bt.setRec {w : World} {g q : Nat} {t : BS} (h : Bt w g q t) (r : BR) (n b : Nat) : Bt ((((w.setCells g 1 (brC r).toList).setCell ⟨g, 6, none⟩ (.int .i64 (n : Int)))).setCell ⟨g, 7, none⟩ (.int .i64 (b : Int))) g q ⟨r, n, b, t.dead⟩ := by
  have e0 := h.row
  have e1 : (w.setCell ⟨g, 1, none⟩ (.int .i64 r.slot)).heap[g]? = some (.cells #[.pointer (some ⟨q, 0, none⟩), .int .i64 r.slot, .bool t.r.up, .int .i64 t.r.count, .int .i64 t.r.s0, .int .i64 t.r.s1, .int .i64 (t.seq : Int), .int .i64 (t.block : Int), .bool t.dead] 79 (0, 0)) := by rw [heap_setCell_same _ _ _ _ _ _ e0]; rfl
  have e2 : ((w.setCell ⟨g, 1, none⟩ (.int .i64 r.slot)).setCell ⟨g, 2, none⟩ (.bool r.up)).heap[g]? = some (.cells #[.pointer (some ⟨q, 0, none⟩), .int .i64 r.slot, .bool r.up, .int .i64 t.r.count, .int .i64 t.r.s0, .int .i64 t.r.s1, .int .i64 (t.seq : Int), .int .i64 (t.block : Int), .bool t.dead] 79 (0, 0)) := by rw [heap_setCell_same _ _ _ _ _ _ e1]; rfl
  have e3 : (((w.setCell ⟨g, 1, none⟩ (.int .i64 r.slot)).setCell ⟨g, 2, none⟩ (.bool r.up)).setCell ⟨g, 3, none⟩ (.int .i64 r.count)).heap[g]? = some (.cells #[.pointer (some ⟨q, 0, none⟩), .int .i64 r.slot, .bool r.up, .int .i64 r.count, .int .i64 t.r.s0, .int .i64 t.r.s1, .int .i64 (t.seq : Int), .int .i64 (t.block : Int), .bool t.dead] 79 (0, 0)) := by rw [heap_setCell_same _ _ _ _ _ _ e2]; rfl
  have e4 : ((((w.setCell ⟨g, 1, none⟩ (.int .i64 r.slot)).setCell ⟨g, 2, none⟩ (.bool r.up)).setCell ⟨g, 3, none⟩ (.int .i64 r.count)).setCell ⟨g, 4, none⟩ (.int .i64 r.s0)).heap[g]? = some (.cells #[.pointer (some ⟨q, 0, none⟩), .int .i64 r.slot, .bool r.up, .int .i64 r.count, .int .i64 r.s0, .int .i64 t.r.s1, .int .i64 (t.seq : Int), .int .i64 (t.block : Int), .bool t.dead] 79 (0, 0)) := by rw [heap_setCell_same _ _ _ _ _ _ e3]; rfl
  have e5 : (((((w.setCell ⟨g, 1, none⟩ (.int .i64 r.slot)).setCell ⟨g, 2, none⟩ (.bool r.up)).setCell ⟨g, 3, none⟩ (.int .i64 r.count)).setCell ⟨g, 4, none⟩ (.int .i64 r.s0)).setCell ⟨g, 5, none⟩ (.int .i64 r.s1)).heap[g]? = some (.cells #[.pointer (some ⟨q, 0, none⟩), .int .i64 r.slot, .bool r.up, .int .i64 r.count, .int .i64 r.s0, .int .i64 r.s1, .int .i64 (t.seq : Int), .int .i64 (t.block : Int), .bool t.dead] 79 (0, 0)) := by rw [heap_setCell_same _ _ _ _ _ _ e4]; rfl
  have e6 : ((((((w.setCell ⟨g, 1, none⟩ (.int .i64 r.slot)).setCell ⟨g, 2, none⟩ (.bool r.up)).setCell ⟨g, 3, none⟩ (.int .i64 r.count)).setCell ⟨g, 4, none⟩ (.int .i64 r.s0)).setCell ⟨g, 5, none⟩ (.int .i64 r.s1)).setCell ⟨g, 6, none⟩ (.int .i64 (n : Int))).heap[g]? = some (.cells #[.pointer (some ⟨q, 0, none⟩), .int .i64 r.slot, .bool r.up, .int .i64 r.count, .int .i64 r.s0, .int .i64 r.s1, .int .i64 (n : Int), .int .i64 (t.block : Int), .bool t.dead] 79 (0, 0)) := by rw [heap_setCell_same _ _ _ _ _ _ e5]; rfl
  have e7 : (((((((w.setCell ⟨g, 1, none⟩ (.int .i64 r.slot)).setCell ⟨g, 2, none⟩ (.bool r.up)).setCell ⟨g, 3, none⟩ (.int .i64 r.count)).setCell ⟨g, 4, none⟩ (.int .i64 r.s0)).setCell ⟨g, 5, none⟩ (.int .i64 r.s1)).setCell ⟨g, 6, none⟩ (.int .i64 (n : Int))).setCell ⟨g, 7, none⟩ (.int .i64 (b : Int))).heap[g]? = some (.cells #[.pointer (some ⟨q, 0, none⟩), .int .i64 r.slot, .bool r.up, .int .i64 r.count, .int .i64 r.s0, .int .i64 r.s1, .int .i64 (n : Int), .int .i64 (b : Int), .bool t.dead] 79 (0, 0)) := by rw [heap_setCell_same _ _ _ _ _ _ e6]; rfl
  exact ⟨e7⟩
set_option maxHeartbeats 2000000 in
theorem bkeep_any (g q p bb cb F : Nat) (s : FS) (t : BS) (r : BR) (n b pg : Nat) (w : World) (h : BtS w F g q p bb cb s t) (hr : r.May) (hn : n < 281474976710656) (hb : b < 2) (hp : pg < 8) :
    Calls Tryz.prog 42 #[.pointer (some ⟨g, 0, none⟩), brV r, .int .i64 (n : Int), .int .i64 (b : Int), .int .i64 (pg : Int)] w fun e w' => e = .returned (.int .i64 (s.bkeep F t r n b pg).2.2) ∧ BtS w' F g q p bb cb (s.bkeep F t r n b pg).1 (s.bkeep F t r n b pg).2.1 ∧ Upd [g, p, bb, cb] w w' := by
  have hw0 : IntKind.i64.wrap ((b : Int) * 512) = ((512 * b : Nat) : Int) := by rw [IntKind.wrap_i64]; omega
  have hw1 : IntKind.i64.wrap ((pg : Int) * 64) = ((64 * pg : Nat) : Int) := by rw [IntKind.wrap_i64]; omega
  have hw2 : IntKind.i64.wrap (((512 * b : Nat) : Int) + ((64 * pg : Nat) : Int)) = ((512 * b + 64 * pg : Nat) : Int) := by rw [IntKind.wrap_i64]; omega
  obtain ⟨A, hA⟩ : ∃ A, A = 512 * b + 64 * pg := ⟨_, rfl⟩
  have HA := Box.mk (show A ≤ 100000 by omega)
  obtain ⟨V, hV⟩ : ∃ V, V = s.bkeep F t r n b pg := ⟨_, rfl⟩
  rw [← hV]
  unfold FS.bkeep FS.bwrite at hV
  rw [← hA] at hw2 hV
  dsimp only at hV
  have HM := Box.mk hV
  have O1 := FS.pwrite_ok h.ok F 2 A (bodyB r n)
  have BG := Box.mk (fun w => body_any r n hr hn w)
  obtain ⟨b0, hb0⟩ : ∃ b0, b0 = w.heap.size := ⟨_, rfl⟩
  have ROW := Box.mk (show (w.alloc (.cells (brC r) 24)).heap[b0]? = some (.cells (brC r) 24 (0, 0)) from by rw [hb0]; exact heap_alloc_new _ _)
  have H := Box.mk (h.keep ((Upd.refl [] w).alloc (.cells (brC r) 24)))
  have U0 := Box.mk ((Upd.refl [g, p, bb, cb] w).alloc (.cells (brC r) 24))
  have LT0 := h.f.lt; have LT1 := h.bt.lt; have LT2 := h.pa.lt
  have NB := Box.mk (show b0 ∉ [g, p, bb, cb] ∧ b0 ≠ g ∧ b0 ≠ q from ⟨by simp only [List.mem_cons, List.not_mem_nil, or_false, not_or]; omega, by omega, by omega⟩)
  have hAI := Box.mk (show (512 * (b : Int) + 64 * (pg : Int)) = (A : Int) by omega)
  clear h hr hn hV hA LT0 LT1 LT2
  unfold brV
  go_enter Tryz.func42, Tryz.ntmps42
  go_upto_region 2 with (fail)
  rw [hAI.out, ← hb0]
  clear hAI hb0 hw0 hw1 hw2
  have LT : Box (∀ k ∈ [p, bb, cb], k < (w.alloc (.cells (brC r) 24)).heap.size) := ⟨by have := H.out.f.lt; intro k hk; simp only [List.mem_cons, List.not_mem_nil, or_false] at hk; omega⟩
  have GN := Box.mk H.out.ap.hg
  have NB3 := Box.mk (show b0 ∉ [p, bb, cb] from fun h => NB.out.1 (List.mem_cons_of_mem _ h))
  generalize w.alloc (.cells (brC r) 24) = w1 at ROW H U0 LT ⊢
  have BG := Box.mk (fun w1 (h : BtS w1 F g q p bb cb s t) => (BG.out w1).mono (fun e w' hh => (show _ ∧ BtS w' F g q p bb cb s t ∧ Upd [] w1 w' from ⟨hh.1, h.keep (Upd.of_below hh.2), Upd.of_below hh.2⟩)))
  have PW := Box.mk (fun w1 (h : BtS w1 F g q p bb cb s t) => (bpwrite_any g q p bb cb F s t A (bodyB r n) w1 h (by have := HA.out; omega) (by rw [bodyB_len]; omega)))
  generalize s.pwrite F 2 ((A : Nat) : Int) (bodyB r n) = r0 at PW HM
  obtain ⟨r1, r2⟩ := r0
  dsimp only at PW HM
  refine wp_region_mixS [p, bb, cb] (fun w => BtS w F g q p bb cb s t) (fun w w' hg h => h.keep hg.upd) (H.out.keep (Upd.refl [] w1).drew) (LT.out) 10 [.flo, .flo, .flo, .flo, .flo, .flo, .flo, .flo, .cha, .cha] (by kernel_rfl) (by kernel_rfl) rfl ?_
  simp only [List.take, List.zip, List.zipWith]
  try go_frame
  refine gm_move (.tmp 0) (.inl rfl) (.pointer (some ⟨g, 0, none⟩)) rfl ?_
  try go_frame
  refine gm_move (.tmp 0) (.inl rfl) (.pointer (some ⟨g, 0, none⟩)) rfl ?_
  try go_frame
  refine gm_flo (.pointer (some ⟨g, 0, none⟩)) (fun w1 hw1 => ?_) ?_
  case refine_1 =>
    go_simp
  try go_frame
  refine gm_flo (.pointer (some ⟨g, 0, none⟩)) (fun w1 hw1 => ?_) ?_
  case refine_1 =>
    go_simp
  try go_frame
  refine gm_flo (.pointer (some ⟨q, 0, none⟩)) (fun w1 hw1 => ?_) ?_
  case refine_1 =>
    have e1 : w1.cell? ⟨g, 0, none⟩ = some (.pointer (some ⟨q, 0, none⟩)) := (cell_of_row _ _ _ _ _ _ (hw1.at (GN.out) H.out.bt.row)).trans rfl
    go_simp
  try go_frame
  refine gm_move (.tmp 11) (.inl rfl) (.int .i64 A) rfl ?_
  try go_frame
  refine gm_loadS (.tmp 6) rfl b0 (brC r) 24 (0, 0) _ ROW.out NB3.out rfl Tryz.underlying24 rfl (by kernel_rfl) ?_
  try go_frame
  refine gm_move (.tmp 2) (.inl rfl) (.int .i64 n) rfl ?_
  try go_frame
  refine gm_callS [.agg (brC r), .int .i64 n] (by kernel_rfl) rfl rfl (fun w1 hw1 hF1 => (BG.out w1 hF1).mono ?_)
  rintro e w2 ⟨rfl, hf, hu⟩
  refine ⟨_, rfl, GrS.of_upd hu (by simp), ((fun w => BtS w F g q p bb cb s t)), ((fun w w' hg h => h.keep hg.upd)), (hf), ?_⟩
  clear hw1 hF1 hf hu w1 w2
  try go_frame
  refine gm_callS [.pointer (some ⟨q, 0, none⟩), .int .i64 A, .string ⟨(bodyB r n).toArray⟩] (by kernel_rfl) rfl rfl (fun w1 hw1 hF1 => (PW.out w1 hF1).mono ?_)
  rintro e w2 ⟨rfl, hf, hu⟩
  refine ⟨_, rfl, GrS.of_upd hu (by simp), ((fun w => BtS w F g q p bb cb r1 t)), ((fun w w' hg h => h.keep hg.upd)), (hf), ?_⟩
  clear hw1 hF1 hf hu w1 w2
  try go_frame
  refine gm_nil ?_
  intro w9 hw9 hF9
  simp only [List.drop]
  try go_frame
  have H9 := Box.mk hF9
  have U9 := Box.mk (U0.out.trans ((Upd.refl [g, p, bb, cb] w1).drew.trans (hw9.upd.mono (T := [g, p, bb, cb]) (fun k hk => List.mem_cons_of_mem _ hk))))
  have ROW9 := Box.mk (hw9.at NB3.out ROW.out)
  clear hF9 hw9 PW BG ROW H U0
  go_wp2_with fail
  refine (btold_any g q t r2 _ H9.out.bt).mono ?_
  rintro e w2 ⟨rfl, hl, hu⟩
  have H10 := Box.mk (H9.out.own hl hu); have U10 := Box.mk (U9.out.trans (hu.mono (T := [g, p, bb, cb]) (by simp)))
  have ROW10 := Box.mk ((hu.block _ (Array.getElem?_eq_some_iff.1 ROW9.out).1 (by rw [List.mem_singleton]; exact NB.out.2.1)).trans ROW9.out)
  clear hl hu H9 U9 ROW9
  by_cases hr : r2 = 0
  · have hrb : (r2 != 0) = false := by simpa using hr
    have hm := HM.out
    rw [if_neg (by simpa using hr)] at hm
    have PZ := Box.mk (bpwrite_any g q p bb cb F r1 (t.told r2) (A + 63) [0] w2 H10.out (by have := HA.out; omega) (by simp))
    generalize r1.pwrite F 2 ((A + 63 : Nat) : Int) [0] = z at PZ hm
    obtain ⟨z1, z2⟩ := z
    dsimp only at PZ hm
    have HM := Box.mk hm
    clear hm hr
    obtain ⟨d0, _, _, _, _, _, _, _, _⟩ := H10.out.bt.cells
    go_wp2_with fail
    rw [show wrap64 ((A : Int) + 63) = ((A + 63 : Nat) : Int) by have := HA.out; rw [IntWalk.wrap64_in] <;> omega]
    refine PZ.out.mono ?_
    rintro e w3 ⟨rfl, h3, u3⟩
    have H11 := Box.mk h3; have U11 := Box.mk (U10.out.trans (u3.mono (T := [g, p, bb, cb]) (fun k hk => List.mem_cons_of_mem _ hk)))
    have ROW11 := Box.mk ((u3.block _ (Array.getElem?_eq_some_iff.1 ROW10.out).1 NB3.out).trans ROW10.out)
    clear h3 u3 H10 U10 ROW10 d0
    go_wp2_with fail
    refine (btold_any g q _ z2 _ H11.out.bt).mono ?_
    rintro e w4 ⟨rfl, hl, hu⟩
    have H12 := Box.mk (H11.out.own hl hu); have U12 := Box.mk (U11.out.trans (hu.mono (T := [g, p, bb, cb]) (by simp)))
    have ROW12 := Box.mk ((hu.block _ (Array.getElem?_eq_some_iff.1 ROW11.out).1 (by rw [List.mem_singleton]; exact NB.out.2.1)).trans ROW11.out)
    clear hl hu H11 U11 ROW11
    by_cases hz : z2 = 0
    · have hzb : (z2 != 0) = false := by simpa using hz
      have hm := HM.out
      rw [if_neg (by simpa using hz)] at hm
      subst hm
      clear hz
      obtain ⟨k0, k1, k2, k3, k4⟩ : w4.cell? ⟨b0, 0, none⟩ = some (.int .i64 r.slot) ∧ w4.cell? ⟨b0, 1, none⟩ = some (.bool r.up) ∧ w4.cell? ⟨b0, 2, none⟩ = some (.int .i64 r.count) ∧ w4.cell? ⟨b0, 3, none⟩ = some (.int .i64 r.s0) ∧ w4.cell? ⟨b0, 4, none⟩ = some (.int .i64 r.s1) := by
        refine ⟨?_, ?_, ?_, ?_, ?_⟩ <;> (rw [cell_of_row _ _ _ _ _ _ ROW12.out]; rfl)
      obtain ⟨_, c1, c2, c3, c4, c5, c6, c7, _⟩ := H12.out.bt.cells
      have f1 := H12.out.bt.free 1; have f2 := H12.out.bt.free 2; have f3 := H12.out.bt.free 3; have f4 := H12.out.bt.free 4; have f5 := H12.out.bt.free 5; have f6 := H12.out.bt.free 6; have f7 := H12.out.bt.free 7
      have FIN : Box (BtS (((((((w4.setCell ⟨g, 1, none⟩ (.int .i64 r.slot)).setCell ⟨g, 2, none⟩ (.bool r.up)).setCell ⟨g, 3, none⟩ (.int .i64 r.count)).setCell ⟨g, 4, none⟩ (.int .i64 r.s0)).setCell ⟨g, 5, none⟩ (.int .i64 r.s1)).setCell ⟨g, 6, none⟩ (.int .i64 (n : Int))).setCell ⟨g, 7, none⟩ (.int .i64 (b : Int))) F g q p bb cb z1 ⟨r, n, b, ((t.told r2).told z2).dead⟩ ∧ Upd [g, p, bb, cb] w (((((((w4.setCell ⟨g, 1, none⟩ (.int .i64 r.slot)).setCell ⟨g, 2, none⟩ (.bool r.up)).setCell ⟨g, 3, none⟩ (.int .i64 r.count)).setCell ⟨g, 4, none⟩ (.int .i64 r.s0)).setCell ⟨g, 5, none⟩ (.int .i64 r.s1)).setCell ⟨g, 6, none⟩ (.int .i64 (n : Int))).setCell ⟨g, 7, none⟩ (.int .i64 (b : Int)))) := ⟨by
        have hu : Upd [g] w4 (((((((w4.setCell ⟨g, 1, none⟩ (.int .i64 r.slot)).setCell ⟨g, 2, none⟩ (.bool r.up)).setCell ⟨g, 3, none⟩ (.int .i64 r.count)).setCell ⟨g, 4, none⟩ (.int .i64 r.s0)).setCell ⟨g, 5, none⟩ (.int .i64 r.s1)).setCell ⟨g, 6, none⟩ (.int .i64 (n : Int))).setCell ⟨g, 7, none⟩ (.int .i64 (b : Int))) :=
          ((((((((Upd.refl [g] w4).setCell (by simp) _).setCell (by simp) _).setCell (by simp) _).setCell (by simp) _).setCell (by simp) _)).setCell (by simp) _).setCell (by simp) _
        exact ⟨H12.out.own (H12.out.bt.setRec r n b) hu, U12.out.trans (hu.mono (by simp))⟩⟩
      clear HM H12 U12 ROW12
      go_wp2_with fail
      go_ret
      exact ⟨rfl, FIN.out⟩
    · have hzb : (z2 != 0) = true := by rw [bne_iff_ne]; exact hz
      have hm := HM.out
      rw [if_pos (by simpa using hz)] at hm
      subst hm
      clear HM hz
      go_wp2_with fail
      go_ret
      exact ⟨rfl, H12.out, U12.out⟩
  · have hrb : (r2 != 0) = true := by rw [bne_iff_ne]; exact hr
    have hm := HM.out
    rw [if_pos (by simpa using hr)] at hm
    subst hm
    clear HM hr
    go_wp2_with fail
    go_ret
    exact ⟨rfl, H10.out, U10.out⟩
end Go.Proofs.YtgcbmjflodgnbaaGreatDoor
namespace Go.Proofs.YtgcbmjflodgnbaaGreatDoor
set_option maxRecDepth 100000
set_option linter.unusedVariables false
open Go Go.RowKit

/-- The records of n pages from p on. -/
def recN (s : List UInt8) : Nat → Nat → List (List UInt8)
  | 0, _ => []
  | n + 1, p => if hdrL s p = true then (recL s p).1 :: recN s n (p + 1) else recN s n (p + 1)
theorem recN_add (s : List UInt8) : ∀ (m n p : Nat), recN s (m + n) p = recN s m p ++ recN s n (p + m)
  | 0, n, p => by simp [recN]
  | m + 1, n, p => by
    rw [show m + 1 + n = (m + n) + 1 by omega, recN, recN, recN_add s m n (p + 1), show p + 1 + m = p + (m + 1) by omega]
    split <;> rfl
theorem recN_none (s : List UInt8) : ∀ (n p : Nat), (∀ i, i < n → hdrL s (p + i) = false) → recN s n p = []
  | 0, p, _ => rfl
  | n + 1, p, h => by
    have h0 := h 0 (by omega)
    rw [Nat.add_zero] at h0
    rw [recN, h0, if_neg (by decide), recN_none s n (p + 1) (fun i hi => by have := h (i + 1) (by omega); rwa [show p + 1 + i = p + (i + 1) by omega])]
theorem recN_congr {s s' : List UInt8} : ∀ (n p : Nat), (∀ i, i < n → hdrL s' (p + i) = hdrL s (p + i) ∧ (hdrL s (p + i) = true → recL s' (p + i) = recL s (p + i))) → recN s' n p = recN s n p
  | 0, p, _ => rfl
  | n + 1, p, h => by
    obtain ⟨h0, h1⟩ := h 0 (by omega)
    rw [Nat.add_zero] at h0 h1
    rw [recN, recN, h0, recN_congr n (p + 1) (fun i hi => by have := h (i + 1) (by omega); rwa [show p + 1 + i = p + (i + 1) by omega])]
    by_cases hh : hdrL s p = true
    · rw [if_pos hh, if_pos hh, h1 hh]
    · rw [if_neg hh, if_neg hh]
/-- Each head is a record's. -/
def Good (s : List UInt8) : Prop := ∀ p, 1 ≤ p → p < 8 → hdrL s p = true → (recL s p).2 ≠ 0
theorem recL_no {s : List UInt8} {p : Nat} (h : hdrL s p = false) : recL s p = ([], 0) := by unfold recL; rw [if_pos h]
theorem goes_of {s : List UInt8} {p n : Nat} (h : ¬ runB (goesL s p) n < n) : ∀ k, k < n → goesL s p k = true := fun k hk => runB_true n _ k (by omega)
structure RecAt (s : List UInt8) (p m : Nat) (r : List UInt8) : Prop where
  hdr : hdrL s p = true
  m1 : m = pgs (lenL s p)
  m0 : m ≠ 0
  le : p + m ≤ 8
  go : ∀ k, k < m - 1 → goesL s p k = true
  r : r = (bodyL s p m).take (lenL s p)
theorem recL_at {s : List UInt8} {p : Nat} (h : (recL s p).2 ≠ 0) : RecAt s p (recL s p).2 (recL s p).1 := by
  by_cases h1 : hdrL s p = false
  · rw [recL_no h1] at h; exact absurd rfl h
  · have h1' : hdrL s p = true := by simpa using h1
    unfold recL at h ⊢
    rw [if_neg h1] at h ⊢
    by_cases h2 : pgs (lenL s p) = 0 ∨ 8 < p + pgs (lenL s p)
    · rw [if_pos h2] at h; exact absurd rfl h
    · rw [if_neg h2] at h ⊢
      by_cases h3 : runB (goesL s p) (pgs (lenL s p) - 1) < pgs (lenL s p) - 1
      · rw [if_pos h3] at h; exact absurd rfl h
      · rw [if_neg h3] at h ⊢
        exact ⟨h1', rfl, h, by omega, goes_of h3, rfl⟩
theorem RecAt.eq {s : List UInt8} {p m : Nat} {r : List UInt8} (h : RecAt s p m r) : recL s p = (r, m) := by
  unfold recL
  obtain ⟨h1, h2, h3, h4, h5, h6⟩ := h
  rw [if_neg (by rw [h1]; decide), if_neg (by omega), if_neg (by rw [← h2, runB_spec _ _ (m - 1) (Nat.le_refl _) h5 (.inl rfl)]; omega), ← h2, ← h6]
theorem goes_hdr {s : List UInt8} {p k : Nat} (h : goesL s p k = true) : hdrL s (p + 1 + k) = false := by
  unfold goesL at h; unfold hdrL
  rw [beq_iff_eq] at h
  rw [h]; rfl
theorem recs_good {s : List UInt8} (h : Good s) : ∀ (f p : Nat), 1 ≤ p → 8 ≤ f + p → recsFrom s f p = recN s (8 - p) p
  | 0, p, h1, h2 => by rw [show 8 - p = 0 by omega]; rfl
  | f + 1, p, h1, h2 => by
    rw [recsFrom]
    by_cases hp : p < 8
    · rw [if_pos hp]
      by_cases hh : hdrL s p = true
      · have hr := h p h1 hp hh
        have ha := recL_at hr
        have hle := ha.le; have hm0 := ha.m0
        rw [if_neg hr, recs_good h f (p + (recL s p).2) (by omega) (by omega)]
        rw [show 8 - p = ((recL s p).2 - 1 + (8 - (p + (recL s p).2))) + 1 by omega, recN, if_pos hh, recN_add, recN_none s ((recL s p).2 - 1) (p + 1) (fun i hi => goes_hdr (ha.go i hi)), List.nil_append, show p + 1 + ((recL s p).2 - 1) = p + (recL s p).2 by omega]
      · have hf : hdrL s p = false := by simpa using hh
        rw [recL_no hf, if_pos rfl, recs_good h f (p + 1) (by omega) (by omega), show 8 - p = (8 - (p + 1)) + 1 by omega, recN, hf, if_neg (by decide)]
    · rw [if_neg hp, show 8 - p = 0 by omega]; rfl
theorem recsL_good {s : List UInt8} (h : Good s) : recsL s = recN s 7 1 := recs_good h 8 1 (Nat.le_refl _) (by omega)

/-- Two lists agree below n. -/
def Agr (s s' : List UInt8) (n : Nat) : Prop := ∀ k, k < n → s'[k]? = s[k]?
theorem Agr.mono {s s' : List UInt8} {n m : Nat} (h : Agr s s' n) (hm : m ≤ n) : Agr s s' m := fun k hk => h k (by omega)
theorem Agr.getD {s s' : List UInt8} {n k : Nat} (h : Agr s s' n) (hk : k < n) : s'.getD k 0 = s.getD k 0 := by rw [List.getD_eq_getElem?_getD, List.getD_eq_getElem?_getD, h k hk]
theorem Agr.cut {s s' : List UInt8} {n a m : Nat} (h : Agr s s' n) (hk : a + m ≤ n) : (s'.drop a).take m = (s.drop a).take m := by
  apply List.ext_getElem?; intro i
  rw [List.getElem?_take, List.getElem?_take, List.getElem?_drop, List.getElem?_drop]
  by_cases hi : i < m
  · rw [if_pos hi, if_pos hi, h _ (by omega)]
  · rw [if_neg hi, if_neg hi]
theorem Agr.hdr {s s' : List UInt8} {b p : Nat} (h : Agr s s' (64 * b)) (hp : p < b) : hdrL s' p = hdrL s p := by
  unfold hdrL; rw [h.getD (by omega), h.getD (by omega)]
theorem Agr.len {s s' : List UInt8} {b p : Nat} (h : Agr s s' (64 * b)) (hp : p < b) : lenL s' p = lenL s p := by
  unfold lenL; rw [h.cut (by omega)]
theorem Agr.body {s s' : List UInt8} {b p : Nat} (h : Agr s s' (64 * b)) : ∀ m, p + m ≤ b → bodyL s' p m = bodyL s p m
  | 0, _ => rfl
  | 1, hm => by rw [bodyL, bodyL, h.cut (by omega)]
  | m + 2, hm => by
    show bodyL s' p (m + 1) ++ _ = bodyL s p (m + 1) ++ _
    rw [h.body (m + 1) (by omega), h.cut (by omega)]
theorem Agr.rec {s s' : List UInt8} {b p : Nat} (h : Agr s s' (64 * b)) (hr : (recL s p).2 ≠ 0) (hb : p + (recL s p).2 ≤ b) : recL s' p = recL s p := by
  have ha := recL_at hr
  have := ha.m0
  have e : RecAt s' p (recL s p).2 (recL s p).1 := ⟨by rw [h.hdr (by omega)]; exact ha.hdr, by rw [h.len (by omega)]; exact ha.m1, ha.m0, ha.le, fun k hk => by
    have := ha.go k hk
    unfold goesL at this ⊢
    rw [h.getD (by omega)]; exact this, by rw [h.body _ hb, h.len (by omega)]; exact ha.r⟩
  rw [e.eq]
/-- Pages from a on are erased. -/
def Cln (s : List UInt8) (a : Nat) : Prop := ∀ p, a ≤ p → p < 8 → s.getD (64 * p) 0 = 255
theorem Cln.hdr {s : List UInt8} {a p : Nat} (h : Cln s a) (h1 : a ≤ p) (h2 : p < 8) : hdrL s p = false := by
  unfold hdrL; rw [h p h1 h2]; rfl
theorem RecAt.below {s : List UInt8} {p m a : Nat} {r : List UInt8} (h : RecAt s p m r) (hc : Cln s a) (hp : p < a) : p + m ≤ a := by
  rcases Nat.lt_or_ge a (p + m) with hlt | hge
  · exfalso
    have hle := h.le
    have hg := h.go (a - p - 1) (by omega)
    unfold goesL at hg
    rw [show p + 1 + (a - p - 1) = a by omega, hc a (Nat.le_refl _) (by omega)] at hg
    exact absurd hg (by decide)
  · exact hge
/-- What changes behind the last record's page changes no record. -/
theorem keep_recs {s s' : List UInt8} {a : Nat} (hg : Good s) (hc : Cln s a) (h1 : 1 ≤ a) (h8 : a ≤ 8) (ha : Agr s s' (64 * a)) :
    (∀ p, 1 ≤ p → p < a → hdrL s' p = hdrL s p ∧ (hdrL s p = true → recL s' p = recL s p)) ∧ recN s' (a - 1) 1 = recN s 7 1 := by
  have hh : ∀ p, 1 ≤ p → p < a → hdrL s' p = hdrL s p ∧ (hdrL s p = true → recL s' p = recL s p) := fun p hp1 hp2 => ⟨ha.hdr hp2, fun h => by
    have hr := hg p hp1 (by omega) h
    exact ha.rec hr ((recL_at hr).below hc hp2)⟩
  refine ⟨hh, ?_⟩
  rw [show 7 = (a - 1) + (8 - a) by omega, recN_add, recN_none s (8 - a) (1 + (a - 1)) (fun i hi => hc.hdr (by omega) (by omega)), List.append_nil]
  exact recN_congr _ _ fun i hi => hh (1 + i) (by omega) (by omega)
/-- .. where no head comes. -/
theorem torn_recs {s s' : List UInt8} {a : Nat} (hg : Good s) (hc : Cln s a) (h1 : 1 ≤ a) (h8 : a ≤ 8) (ha : Agr s s' (64 * a)) (hn : ∀ p, a ≤ p → p < 8 → hdrL s' p = false) : Good s' ∧ recN s' 7 1 = recN s 7 1 := by
  obtain ⟨h, e⟩ := keep_recs hg hc h1 h8 ha
  refine ⟨fun p hp1 hp2 hh => ?_, ?_⟩
  · rcases Nat.lt_or_ge p a with hlt | hge
    · obtain ⟨e1, e2⟩ := h p hp1 hlt
      rw [e1] at hh
      rw [e2 hh]; exact hg p hp1 hp2 hh
    · rw [hn p hge hp2] at hh; exact absurd hh (by decide)
  · rw [show 7 = (a - 1) + (8 - a) by omega, recN_add, recN_none s' (8 - a) (1 + (a - 1)) (fun i hi => hn _ (by omega) (by omega)), List.append_nil, e]
    congr 1; omega
/-- .. where a record comes. -/
theorem new_rec {s s' : List UInt8} {a m : Nat} {r : List UInt8} (hg : Good s) (hc : Cln s a) (h1 : 1 ≤ a) (h8 : a < 8) (ha : Agr s s' (64 * a)) (hr : RecAt s' a m r) (hn : ∀ p, a + m ≤ p → p < 8 → hdrL s' p = false) : Good s' ∧ recN s' 7 1 = recN s 7 1 ++ [r] := by
  obtain ⟨h, e⟩ := keep_recs hg hc h1 (by omega) ha
  have hz : ∀ p, a < p → p < 8 → hdrL s' p = false := fun p hp1 hp2 => by
    rcases Nat.lt_or_ge p (a + m) with hlt | hge
    · have := goes_hdr (hr.go (p - a - 1) (by omega))
      rwa [show a + 1 + (p - a - 1) = p by omega] at this
    · exact hn p hge hp2
  refine ⟨fun p hp1 hp2 hh => ?_, ?_⟩
  · rcases Nat.lt_trichotomy p a with hlt | rfl | hgt
    · obtain ⟨e1, e2⟩ := h p hp1 hlt
      rw [e1] at hh
      rw [e2 hh]; exact hg p hp1 hp2 hh
    · rw [hr.eq]; exact hr.m0
    · rw [hz p hgt hp2] at hh; exact absurd hh (by decide)
  · have e7 : recN s' 7 1 = recN s' ((a - 1) + ((8 - a - 1) + 1)) 1 := by congr 1; omega
    rw [e7, recN_add, recN, show 1 + (a - 1) = a by omega, hr.hdr, if_pos rfl, hr.eq, recN_none s' (8 - a - 1) (a + 1) (fun i hi => hz _ (by omega) (by omega)), e]
/-- A record's length, out of its pages. -/
theorem pgs_pos {n : Nat} (h : n ≤ 400) : 1 ≤ pgs n ∧ pgs n ≤ 7 := by unfold pgs; split; omega; split <;> omega
end Go.Proofs.YtgcbmjflodgnbaaGreatDoor
namespace Go.Proofs.YtgcbmjflodgnbaaGreatDoor
set_option maxRecDepth 100000
set_option linter.unusedVariables false
open Go Go.RowKit

theorem bit1 (o c m : UInt8) : (o &&& (c ||| m)) &&& ~~~o = 0 := by
  apply UInt8.toBitVec_inj.1; apply BitVec.eq_of_getElem_eq; intro i hi
  simp only [UInt8.toBitVec_and, UInt8.toBitVec_or, UInt8.toBitVec_not, BitVec.getElem_and, BitVec.getElem_or, BitVec.getElem_not]
  cases o.toBitVec[i] <;> simp
theorem bit2 (o c m : UInt8) : (o &&& c) &&& ~~~(o &&& (c ||| m)) = 0 := by
  apply UInt8.toBitVec_inj.1; apply BitVec.eq_of_getElem_eq; intro i hi
  simp only [UInt8.toBitVec_and, UInt8.toBitVec_or, UInt8.toBitVec_not, BitVec.getElem_and, BitVec.getElem_or, BitVec.getElem_not]
  cases o.toBitVec[i] <;> cases c.toBitVec[i] <;> simp
theorem bit3 (o m : UInt8) : o &&& ~~~(o ||| m) = 0 := by
  apply UInt8.toBitVec_inj.1; apply BitVec.eq_of_getElem_eq; intro i hi
  simp only [UInt8.toBitVec_and, UInt8.toBitVec_or, UInt8.toBitVec_not, BitVec.getElem_and, BitVec.getElem_or, BitVec.getElem_not]
  cases o.toBitVec[i] <;> simp
theorem bit4 (x : UInt8) : x &&& ~~~255 = 0 := by
  have : (~~~255 : UInt8) = 0 := by decide
  rw [this]; simp
theorem bit5 (o c : UInt8) : (o &&& c) &&& ~~~o = 0 := by
  apply UInt8.toBitVec_inj.1; apply BitVec.eq_of_getElem_eq; intro i hi
  simp only [UInt8.toBitVec_and, UInt8.toBitVec_not, BitVec.getElem_and, BitVec.getElem_not]
  cases o.toBitVec[i] <;> simp
theorem bit6 (o : UInt8) : o &&& ~~~o = 0 := by
  apply UInt8.toBitVec_inj.1; apply BitVec.eq_of_getElem_eq; intro i hi
  simp only [UInt8.toBitVec_and, UInt8.toBitVec_not, BitVec.getElem_and, BitVec.getElem_not]
  cases o.toBitVec[i] <;> simp
theorem andNot_u8 (a b : UInt8) : bits .andNot .u8 (a.toNat : Int) (b.toNat : Int) = ((a &&& ~~~b).toNat : Int) := by
  rw [u8_andNot_nat _ _ a.toNat_lt b.toNat_lt, UInt8.toNat_and]
  congr 2
  have : (~~~b).toNat = 255 - b.toNat := by
    rw [← UInt8.toNat_toBitVec, UInt8.toBitVec_not, BitVec.toNat_not]; rfl
  rw [this]

/-- Behind a torn step: each byte as it was, or as it would be, but what lies between, all of one byte (of one page). -/
def Tore (er : Bool) (was now all : List UInt8) : Prop :=
  ∃ K : Nat, ∀ (i : Nat) (o n a : UInt8), was[i]? = some o → now[i]? = some n → all[i]? = some a →
    n = o ∨ n = a ∨ ((if er then i / 64 else i) = K ∧ (if er then o &&& ~~~n = 0 ∧ n &&& ~~~a = 0 else n &&& ~~~o = 0 ∧ a &&& ~~~n = 0))

theorem tore_prog (b : List UInt8) (A : Nat) (l : List UInt8) (keep k' : Int) (mask m' : UInt8) :
    Tore false b (progBytes b A l true keep mask) (progBytes b A l false k' m') := by
  refine ⟨A + keep.toNat, fun i o n a ho hn ha => ?_⟩
  rw [progBytes_at, ho, Option.map_some] at hn ha
  cases hn; cases ha
  by_cases hA : A ≤ i
  · rw [if_pos hA, if_pos hA]
    cases hl : l[i - A]? with
    | none => left; rfl
    | some c =>
      simp only [progByte, true_or, if_true]
      by_cases h1 : ((i - A : Nat) : Int) < keep
      · right; left; rw [if_pos (Or.inr h1)]
      · rw [if_neg (by simp; omega)]
        by_cases h2 : ((i - A : Nat) : Int) = keep
        · rw [if_pos h2]
          right; right
          refine ⟨by simp; omega, ?_⟩
          rw [if_neg (by decide)]
          exact ⟨bit1 o c mask, bit2 o c mask⟩
        · left; rw [if_neg h2]
  · left; rw [if_neg hA]
theorem tore_erase (b : List UInt8) (K : Nat) (keep k' : Int) (mask m' : UInt8) :
    Tore true b (eraseUpto b (512 * K) 512 true keep mask) (eraseUpto b (512 * K) 512 false k' m') := by
  refine ⟨8 * K + keep.toNat, fun i o n a ho hn ha => ?_⟩
  rw [eraseUpto_at, ho, Option.map_some] at hn ha
  cases hn; cases ha
  by_cases hA : 512 * K ≤ i ∧ i < 512 * K + 512
  · rw [if_pos hA, if_pos hA]
    simp only [eraseByte, true_or, if_true]
    by_cases h1 : (((i - 512 * K) / 64 : Nat) : Int) < keep
    · right; left; rw [if_pos (Or.inr h1)]
    · rw [if_neg (by simp; omega)]
      by_cases h2 : (((i - 512 * K) / 64 : Nat) : Int) = keep
      · rw [if_pos h2]
        right; right
        exact ⟨by show i / 64 = _; omega, bit3 o mask, bit4 _⟩
      · left; rw [if_neg h2]
  · left; rw [if_neg hA]

/-- The next step is torn. -/
def FS.armed1 (s : FS) (keep : Int) (mask : UInt8) : FS := { s with armed := 1, keep := max 0 keep, mask := mask }
theorem FS.arm_one {s : FS} (h : s.Still) (keep : Int) (mask : UInt8) : s.arm 1 keep mask = (s.armed1 keep mask, 0) := by
  unfold FS.arm
  rw [if_neg (by rw [h.dead]; decide), if_neg (by decide)]; rfl

/-- What a call does to a flash of which the next step is torn (q), and to one of which none is (r). -/
structure TornCall (er : Bool) (s0 : FS) (q r : FS × Int) : Prop where
  none : (r.2 ≠ 0 ∨ r.1.steps = 0) → q.2 = r.2 ∧ q.1.dead = false ∧ q.1.b = s0.b
  some : r.2 = 0 → r.1.steps ≠ 0 → q.2 = 2 ∧ q.1.dead = true ∧ Tore er s0.b q.1.b r.1.b
  l1 : q.1.b.length = s0.b.length
  l2 : r.1.b.length = s0.b.length

theorem torn_prog {s : FS} (h : s.Still) (hs : s.steps = 0) (keep : Int) (mask : UInt8) (at_ : Int) (l : List UInt8) :
    TornCall false s ((s.armed1 keep mask).program at_ l) (s.program at_ l) := by
  have hd : (s.armed1 keep mask).dead = false := h.dead
  have hb : (s.armed1 keep mask).b = s.b := rfl
  by_cases c1 : onB s.b.length at_ l.length = false
  · have e1 : s.program at_ l = (s, 111) := by unfold FS.program; rw [if_neg (by rw [h.dead]; decide), if_pos c1]
    have e2 : (s.armed1 keep mask).program at_ l = (s.armed1 keep mask, 111) := by unfold FS.program; rw [if_neg (by rw [hd]; decide), hb, if_pos c1]
    rw [e1, e2]
    exact ⟨fun _ => ⟨rfl, h.dead, rfl⟩, fun h0 => absurd (show (111:Int) = 0 from h0) (by decide), rfl, rfl⟩
  · by_cases c2 : l = []
    · have e1 : s.program at_ l = (s, 0) := by unfold FS.program; rw [if_neg (by rw [h.dead]; decide), if_neg c1, if_pos c2]
      have e2 : (s.armed1 keep mask).program at_ l = (s.armed1 keep mask, 0) := by unfold FS.program; rw [if_neg (by rw [hd]; decide), hb, if_neg c1, if_pos c2]
      rw [e1, e2]
      exact ⟨fun _ => ⟨rfl, h.dead, rfl⟩, fun _ h0 => absurd hs h0, rfl, rfl⟩
    · by_cases c3 : at_ / 64 ≠ (at_ + l.length - 1) / 64
      · have e1 : s.program at_ l = (s, 112) := by unfold FS.program; rw [if_neg (by rw [h.dead]; decide), if_neg c1, if_neg c2, if_pos c3]
        have e2 : (s.armed1 keep mask).program at_ l = (s.armed1 keep mask, 112) := by unfold FS.program; rw [if_neg (by rw [hd]; decide), hb, if_neg c1, if_neg c2, if_pos c3]
        rw [e1, e2]
        exact ⟨fun _ => ⟨rfl, h.dead, rfl⟩, fun h0 => absurd (show (112:Int) = 0 from h0) (by decide), rfl, rfl⟩
      · have k := h.step
        have hg : (s.armed1 keep mask).goes = true := rfl
        have ht : toldI false = 0 := by unfold toldI; rfl
        have ht2 : toldI true = 2 := by unfold toldI; rfl
        have hst : s.step.steps = 1 := by simp only [FS.step, hs]; decide +kernel
        have e1 : s.program at_ l = ({ s.step with b := progBytes s.b at_.toNat l false s.keep s.mask }, 0) := by
          unfold FS.program; rw [if_neg (by rw [h.dead]; decide), if_neg c1, if_neg c2, if_neg c3, k.2, ht]
        have e2 : (s.armed1 keep mask).program at_ l = ({ (s.armed1 keep mask).step with b := progBytes s.b at_.toNat l true (max 0 keep) mask }, 2) := by
          unfold FS.program; rw [if_neg (by rw [hd]; decide), hb, if_neg c1, if_neg c2, if_neg c3, hg, ht2]; rfl
        rw [e1, e2]
        refine ⟨fun h0 => ?_, fun _ _ => ⟨rfl, rfl, ?_⟩, ?_, ?_⟩
        · exfalso
          rcases h0 with h0 | h0
          · exact h0 rfl
          · have h0 : s.step.steps = 0 := h0
            rw [hst] at h0; cases h0
        · exact tore_prog _ _ _ _ _ _ _
        · exact progBytes_length _ _ _ _ _ _
        · exact progBytes_length _ _ _ _ _ _
theorem torn_erase {s : FS} (h : s.Still) (hs : s.steps = 0) (keep : Int) (mask : UInt8) (at_ : Int) :
    TornCall true s ((s.armed1 keep mask).erase at_) (s.erase at_) := by
  have hd : (s.armed1 keep mask).dead = false := h.dead
  have hb : (s.armed1 keep mask).b = s.b := rfl
  have hn : (s.armed1 keep mask).n = s.n := rfl
  by_cases c1 : blkB s.n.length at_ = false
  · have e1 : s.erase at_ = (s, 111) := by unfold FS.erase; rw [if_neg (by rw [h.dead]; decide), if_pos c1]
    have e2 : (s.armed1 keep mask).erase at_ = (s.armed1 keep mask, 111) := by unfold FS.erase; rw [if_neg (by rw [hd]; decide), hn, if_pos c1]
    rw [e1, e2]
    exact ⟨fun _ => ⟨rfl, h.dead, rfl⟩, fun h0 => absurd (show (111:Int) = 0 from h0) (by decide), rfl, rfl⟩
  · have k := h.step
    have hg : (s.armed1 keep mask).goes = true := rfl
    have ht : toldI false = 0 := by unfold toldI; rfl
    have ht2 : toldI true = 2 := by unfold toldI; rfl
    have hst : s.step.steps = 1 := by simp only [FS.step, hs]; decide +kernel
    have e1 : s.erase at_ = ({ s.step with n := s.bump at_.toNat, b := eraseUpto s.b (512 * at_.toNat) 512 false s.keep s.mask }, 0) := by
      unfold FS.erase; rw [if_neg (by rw [h.dead]; decide), if_neg c1, k.2, ht]
    have e2 : (s.armed1 keep mask).erase at_ = ({ (s.armed1 keep mask).step with n := (s.armed1 keep mask).bump at_.toNat, b := eraseUpto s.b (512 * at_.toNat) 512 true (max 0 keep) mask }, 2) := by
      unfold FS.erase; rw [if_neg (by rw [hd]; decide), hn, if_neg c1, hg, ht2]; rfl
    rw [e1, e2]
    refine ⟨fun h0 => ?_, fun _ _ => ⟨rfl, rfl, ?_⟩, ?_, ?_⟩
    · exfalso
      rcases h0 with h0 | h0
      · exact h0 rfl
      · have h0 : s.step.steps = 0 := h0
        rw [hst] at h0; cases h0
    · exact tore_erase _ _ _ _ _ _
    · exact eraseUpto_length _ _ _ _ _ _
    · exact eraseUpto_length _ _ _ _ _ _
/-- The same of strings. -/
structure Tear3 (er : Bool) (K : Nat) (was now all : ByteArray) : Prop where
  z1 : now.size = was.size
  z2 : all.size = was.size
  at_ : ∀ (i : Nat) (h1 : i < was.size) (h2 : i < now.size) (h3 : i < all.size), now[i] = was[i] ∨ now[i] = all[i] ∨
    ((if er then i / 64 else i) = K ∧ (if er then was[i] &&& ~~~now[i] = 0 ∧ now[i] &&& ~~~all[i] = 0 else now[i] &&& ~~~was[i] = 0 ∧ all[i] &&& ~~~now[i] = 0))
theorem tear3 {er : Bool} {a b c : List UInt8} (h : Tore er a b c) (h1 : b.length = a.length) (h2 : c.length = a.length) : ∃ K, Tear3 er K ⟨a.toArray⟩ ⟨b.toArray⟩ ⟨c.toArray⟩ := by
  obtain ⟨K, h⟩ := h
  refine ⟨K, by show b.toArray.size = a.toArray.size; simpa using h1, by show c.toArray.size = a.toArray.size; simpa using h2, fun i g1 g2 g3 => ?_⟩
  have g1 : i < a.length := by have : i < a.toArray.size := g1; simpa using this
  have g2 : i < b.length := by have : i < b.toArray.size := g2; simpa using this
  have g3 : i < c.length := by have : i < c.toArray.size := g3; simpa using this
  exact h i a[i] b[i] c[i] (List.getElem?_eq_getElem _) (List.getElem?_eq_getElem _) (List.getElem?_eq_getElem _)
end Go.Proofs.YtgcbmjflodgnbaaGreatDoor
namespace Go.Proofs.YtgcbmjflodgnbaaGreatDoor
set_option maxRecDepth 100000
set_option linter.unusedVariables false
open Go Go.RowKit

/-- Outside of [f, t) no bit is set, within none is cleared. -/
structure Bits (was now : List UInt8) (f t : Nat) : Prop where
  len : now.length = was.length
  out : ∀ (k : Nat) (o n : UInt8), was[k]? = some o → now[k]? = some n → ¬ (f ≤ k ∧ k < t) → n &&& ~~~o = 0
  in_ : ∀ (k : Nat) (o n : UInt8), was[k]? = some o → now[k]? = some n → f ≤ k ∧ k < t → o &&& ~~~n = 0
theorem Bits.same (b : List UInt8) : Bits b b 0 0 :=
  ⟨rfl, fun k o n h1 h2 _ => by rw [h1] at h2; cases h2; exact bit6 o, fun k o n _ _ h => by omega⟩
theorem Bits.prog (b : List UInt8) (A : Nat) (l : List UInt8) (g : Bool) (keep : Int) (mask : UInt8) : Bits b (progBytes b A l g keep mask) 0 0 := by
  refine ⟨progBytes_length _ _ _ _ _ _, fun k o n h1 h2 _ => ?_, fun k o n _ _ h => by omega⟩
  rw [progBytes_at, h1, Option.map_some] at h2
  cases h2
  split
  · split
    · simp only [progByte]
      split
      · exact bit5 _ _
      · split
        · exact bit1 _ _ _
        · exact bit6 _
    · exact bit6 _
  · exact bit6 _
theorem Bits.erase (b : List UInt8) (K : Nat) (g : Bool) (keep : Int) (mask : UInt8) : Bits b (eraseUpto b (512 * K) 512 g keep mask) (512 * K) (512 * K + 512) := by
  refine ⟨eraseUpto_length _ _ _ _ _ _, fun k o n h1 h2 h => ?_, fun k o n h1 h2 h => ?_⟩
  · rw [eraseUpto_at, h1, Option.map_some, if_neg h] at h2
    cases h2; exact bit6 _
  · rw [eraseUpto_at, h1, Option.map_some, if_pos h] at h2
    cases h2
    simp only [eraseByte]
    split
    · exact bit4 _
    · split
      · exact bit3 _ _
      · exact bit6 _
theorem Bits.in0 {was now : List UInt8} (K : Nat) (h : Bits was now 0 0) (he : now = was) : Bits was now (512 * K) (512 * K + 512) :=
  ⟨h.len, fun k o n h1 h2 _ => h.out k o n h1 h2 (by omega), fun k o n h1 h2 _ => by subst he; rw [h1] at h2; cases h2; exact bit6 o⟩
theorem FS.program_bits (s : FS) (at_ : Int) (l : List UInt8) : Bits s.b (s.program at_ l).1.b 0 0 := by
  unfold FS.program
  split
  · exact Bits.same _
  · split
    · exact Bits.same _
    · split
      · exact Bits.same _
      · split
        · exact Bits.same _
        · exact Bits.prog _ _ _ _ _ _
/-- Erase: either nothing was done, or it is a block's. -/
theorem FS.erase_bits (s : FS) (block : Int) :
    ((s.erase block).2 = 111 → Bits s.b (s.erase block).1.b 0 0) ∧ (¬ (0 ≤ block ∧ block < s.n.length) → Bits s.b (s.erase block).1.b 0 0) ∧
    (0 ≤ block ∧ block < s.n.length → Bits s.b (s.erase block).1.b (512 * block.toNat) (512 * block.toNat + 512)) := by
  unfold FS.erase
  by_cases hd : s.dead = true
  · rw [if_pos hd]
    exact ⟨fun _ => Bits.same _, fun _ => Bits.same _, fun _ => Bits.in0 _ (Bits.same _) rfl⟩
  · rw [if_neg hd]
    by_cases hb : blkB s.n.length block = false
    · rw [if_pos hb]
      exact ⟨fun _ => Bits.same _, fun _ => Bits.same _, fun _ => Bits.in0 _ (Bits.same _) rfl⟩
    · rw [if_neg hb]
      have hb' : 0 ≤ block ∧ block < s.n.length := by unfold blkB at hb; simpa using hb
      refine ⟨fun h => ?_, fun h => absurd hb' h, fun _ => Bits.erase _ _ _ _ _⟩
      have h : toldI s.goes = 111 := h
      unfold toldI at h
      split at h <;> cases h
theorem FS.erase_ans (s : FS) (block : Int) : (s.erase block).2 = 111 ∨ (s.erase block).2 = 2 ∨ ((s.erase block).2 = 0 ∧ 0 ≤ block ∧ block < s.n.length) := by
  unfold FS.erase
  split
  · right; left; rfl
  · split
    · left; rfl
    · rename_i hb
      have hb' : 0 ≤ block ∧ block < s.n.length := by unfold blkB at hb; simpa using hb
      show toldI _ = 111 ∨ toldI _ = 2 ∨ (toldI _ = 0 ∧ _)
      unfold toldI
      split
      · right; left; rfl
      · right; right; exact ⟨rfl, hb'⟩
theorem FS.arm_b (s : FS) (n k : Int) (m : UInt8) : (s.arm n k m).1.b = s.b := by
  unfold FS.arm
  (repeat' split) <;> rfl
/-- The same of strings. -/
theorem Bits.str {a b : List UInt8} {f t : Nat} (h : Bits a b f t) {was now : ByteArray} (h1 : was = ⟨a.toArray⟩) (h2 : now = ⟨b.toArray⟩) :
    now.size = was.size ∧ ∀ (k : Nat) (g1 : k < was.size) (g2 : k < now.size), (¬ (f ≤ k ∧ k < t) → now[k] &&& ~~~was[k] = 0) ∧ (f ≤ k ∧ k < t → was[k] &&& ~~~now[k] = 0) := by
  subst h1 h2
  refine ⟨by show b.toArray.size = a.toArray.size; simpa using h.len, fun k g1 g2 => ?_⟩
  have g1 : k < a.length := by have : k < a.toArray.size := g1; simpa using this
  have g2 : k < b.length := by have : k < b.toArray.size := g2; simpa using this
  exact ⟨h.out k a[k] b[k] (List.getElem?_eq_getElem _) (List.getElem?_eq_getElem _), h.in_ k a[k] b[k] (List.getElem?_eq_getElem _) (List.getElem?_eq_getElem _)⟩
theorem str_size {s : FS} (h : s.Ok) {x : ByteArray} (hx : x = ⟨s.b.toArray⟩) : x.size ≤ 131072 := by
  have h1 := h.len; have h2 := h.few
  rw [hx]; show s.b.toArray.size ≤ _; rw [List.size_toArray]; omega
end Go.Proofs.YtgcbmjflodgnbaaGreatDoor
namespace Go.Proofs.YtgcbmjflodgnbaaGreatDoor
set_option maxRecDepth 100000
set_option linter.unusedVariables false
open Go Go.RowKit

/-- Written, perhaps torn. -/
def FS.wr (s : FS) (A : Nat) (l : List UInt8) : FS := { s.step with b := progBytes s.b A l s.goes s.keep s.mask }
def FS.er (s : FS) (K : Nat) : FS := { s.step with n := s.bump K, b := eraseUpto s.b (512 * K) 512 s.goes s.keep s.mask }
theorem step_dead {s : FS} (h : s.dead = false) : s.step.dead = s.goes := by
  unfold FS.step FS.goes; dsimp only; split
  · exact h
  · rfl
theorem toldI_zero {g : Bool} : toldI g = 0 ↔ g = false := by unfold toldI; cases g <;> simp
theorem toldI_ne {g : Bool} : toldI g ≠ 0 ↔ g = true := by unfold toldI; cases g <;> simp
theorem toldI_t : toldI true = 2 := by unfold toldI; rfl
theorem toldI_f : toldI false = 0 := by unfold toldI; rfl
theorem on_yes {L A n : Nat} (h : A + n ≤ L) : onB L (A : Int) (n : Int) = true := by unfold onB; rw [decide_eq_true_iff]; omega
theorem lw_one {s : FS} {F B at_ : Nat} {l : List UInt8} (hd : s.dead = false) (hok : s.Ok) (hin : In s.n.length F B) (hl : l ≠ []) (h : at_ + l.length ≤ 512 * B) (hp : at_ % 64 + l.length ≤ 64) : s.pwrite F B at_ l = (s.wr (512 * F + at_) l, toldI s.goes) := by
  have h1 : 1 ≤ l.length := by cases l with | nil => exact absurd rfl hl | cons a b => simp
  have hlen := hok.len; have hhi := hin.hi
  unfold FS.pwrite
  rw [if_pos ((inB_iff _ _ _).2 (by omega))]
  obtain ⟨k, hk⟩ : ∃ k, l.length = k + 1 := ⟨l.length - 1, by omega⟩
  have hA : (512 * (F : Int) + (at_ : Int)) = ((512 * F + at_ : Nat) : Int) := by omega
  rw [hA]
  have hm : min l.length (64 - (((512 * F + at_ : Nat) : Int) % 64).toNat) = l.length := by omega
  have hgo := FS.program_go s (512 * F + at_) l hd hl (by omega) (by omega)
  rw [show FS.pw l.length s ((512 * F + at_ : Nat) : Int) l = FS.pw (k + 1) s ((512 * F + at_ : Nat) : Int) l by rw [hk], FS.pw_step _ _ _ _ hl, hm, List.take_length, hgo, List.drop_length, FS.pw_nil]
  cases hg : s.goes with
  | true => rw [toldI_t]; simp only [ne_eq]; rw [if_pos (by decide)]; unfold FS.wr; rw [hg]
  | false => rw [toldI_f]; simp only [ne_eq]; rw [if_neg (by decide)]; unfold FS.wr; rw [hg]
theorem wr_ok {s : FS} (h : s.Ok) (A : Nat) (l : List UInt8) : (s.wr A l).Ok ∧ (s.wr A l).n = s.n ∧ (s.wr A l).b.length = s.b.length :=
  ⟨h.step.setb _ (progBytes_length _ _ _ _ _ _), rfl, progBytes_length _ _ _ _ _ _⟩
theorem wr_dead {s : FS} (h : s.dead = false) (A : Nat) (l : List UInt8) : (s.wr A l).dead = s.goes := step_dead h
theorem wr_out (s : FS) (A : Nat) (l : List UInt8) (k : Nat) (h : k < A ∨ A + l.length ≤ k) : (s.wr A l).b[k]? = s.b[k]? := progBytes_get _ _ _ _ _ _ _ (by omega)
/-- A byte that was erased, behind a writing. -/
def FS.wb (s : FS) (i : Nat) (c : UInt8) : UInt8 := progByte s.goes s.keep s.mask i 255 c
theorem wr_in (s : FS) (A : Nat) (l : List UInt8) (i : Nat) (c : UInt8) (hi : l[i]? = some c) (he : s.b[A + i]? = some 255) : (s.wr A l).b[A + i]? = some (s.wb i c) := by
  unfold FS.wr FS.wb
  rw [progBytes_at, he, Option.map_some, if_pos (by omega), show A + i - A = i by omega, hi]
theorem land255 (c : UInt8) : (255 : UInt8) &&& c = c := and255 c
theorem lwb_go {s : FS} (h : s.goes = false) (i : Nat) (c : UInt8) : s.wb i c = c := by unfold FS.wb progByte; rw [h, if_pos (.inl rfl), and255]
theorem lwb_255 (s : FS) (i : Nat) : s.wb i 255 = 255 := by
  unfold FS.wb progByte
  split
  · rfl
  · split
    · rw [UInt8.or_comm, or255]; rfl
    · rfl
theorem lor2 (m : UInt8) : (2 ||| m : UInt8) ≠ 1 := by
  intro h
  have := congrArg (fun x : UInt8 => x.toBitVec.getLsbD 1) h
  simp at this
theorem lwb_2 (s : FS) (i : Nat) : s.wb i 2 ≠ 1 := by
  unfold FS.wb progByte
  split
  · decide
  · split
    · rw [and255]; exact lor2 _
    · decide
/-- What an erasing sets. -/
def FS.ex (s : FS) (pg : Nat) : UInt8 := if s.goes = false ∨ (pg : Int) < s.keep then 255 else if (pg : Int) = s.keep then s.mask else 0
theorem eraseByte_or (s : FS) (pg : Nat) (old : UInt8) : eraseByte s.goes s.keep s.mask pg old = old ||| s.ex pg := by
  unfold eraseByte FS.ex
  split
  · rw [or255]
  · split
    · rfl
    · simp
theorem er_at (s : FS) (K k : Nat) : (s.er K).b[k]? = (s.b[k]?).map fun old => if 512 * K ≤ k ∧ k < 512 * K + 512 then old ||| s.ex ((k - 512 * K) / 64) else old := by
  unfold FS.er; rw [eraseUpto_at]; congr 1; funext old
  by_cases h : 512 * K ≤ k ∧ k < 512 * K + 512
  · rw [if_pos h, if_pos h, eraseByte_or]
  · rw [if_neg h, if_neg h]
theorem ex_go {s : FS} (h : s.goes = false) (pg : Nat) : s.ex pg = 255 := by unfold FS.ex; rw [if_pos (.inl h)]
/-- Where the first page is what it was, nothing is erased. -/
theorem ex_zero {s : FS} (hok : s.Ok) (h : s.ex 0 = 0) : ∀ pg, s.ex pg = 0 := by
  intro pg
  have hk := hok.keep
  unfold FS.ex at h ⊢
  by_cases h1 : s.goes = false ∨ ((0 : Nat) : Int) < s.keep
  · rw [if_pos h1] at h; exact absurd h (by decide)
  · rw [if_neg h1] at h
    have h2 : ¬ s.goes = false := fun h' => h1 (.inl h')
    have h3 : ¬ ((0 : Nat) : Int) < s.keep := fun h' => h1 (.inr h')
    have hk0 : s.keep = 0 := by omega
    rw [if_pos (show ((0 : Nat) : Int) = s.keep by omega)] at h
    by_cases hp : pg = 0
    · subst hp; rw [if_neg h1, if_pos (show ((0 : Nat) : Int) = s.keep by omega)]; exact h
    · rw [if_neg (show ¬ (s.goes = false ∨ (pg : Int) < s.keep) from fun h' => h'.elim h2 (fun h' => by omega)), if_neg (show ¬ (pg : Int) = s.keep by omega)]
theorem er_ok {s : FS} (h : s.Ok) (K : Nat) : (s.er K).Ok ∧ (s.er K).n.length = s.n.length ∧ (s.er K).b.length = s.b.length := by
  have hs := h.step
  refine ⟨⟨hs.armed, hs.keep, ?_, ?_⟩, ?_, eraseUpto_length _ _ _ _ _ _⟩
  · show (eraseUpto _ _ _ _ _ _).length = 512 * (s.bump K).length
    rw [eraseUpto_length]; unfold FS.bump; rw [List.length_set]; exact h.len
  · show 1 ≤ (s.bump K).length ∧ (s.bump K).length ≤ 256
    unfold FS.bump; rw [List.length_set]; exact h.few
  · show (s.bump K).length = _
    unfold FS.bump; rw [List.length_set]
theorem er_dead {s : FS} (h : s.dead = false) (K : Nat) : (s.er K).dead = s.goes := step_dead h
theorem perase_one {s : FS} {F B k : Nat} (hd : s.dead = false) (hin : In s.n.length F B) (hk : k < B) : s.perase F B k = (s.er (F + k), toldI s.goes) := by
  have hhi := hin.hi
  unfold FS.perase
  rw [if_pos (by omega)]
  unfold FS.erase
  rw [hd, if_neg (by decide), if_neg (by unfold blkB; rw [decide_eq_false_iff_not]; omega)]
  have e : ((F : Int) + (k : Int)).toNat = F + k := by omega
  rw [e]; rfl
/-- A page that is no segment's stays so. -/
theorem numL_or (p : List UInt8) (x : UInt8) (hx : x ≠ 0) : numL (p.map (· ||| x)) = 0 := by
  unfold numL
  dsimp only
  split
  · rfl
  · rename_i h
    exfalso
    have h2 : firstL _ = p.map (· ||| x) := Classical.byContradiction fun h' => h (.inr h')
    have h7 := congrArg (fun l : List UInt8 => l[7]?) h2
    have hf : ∀ n, (firstL n)[7]? = some 0 := fun n => by
      unfold firstL begL
      rw [List.getElem?_append_right (by simp [leList_length]), show 7 - (83 :: leList 6 n).length = 0 by simp [leList_length]]; rfl
    rw [hf, List.getElem?_map] at h7
    cases hc : p[7]? with
    | none => rw [hc] at h7; cases h7
    | some c =>
      rw [hc] at h7
      have h0 : (0 : UInt8) = c ||| x := Option.some.inj h7
      have : x = 0 := by
        apply UInt8.toBitVec_inj.1; apply BitVec.eq_of_getElem_eq; intro i hi
        have h3 := congrArg (fun y : UInt8 => y.toBitVec[i]) h0
        simp only [UInt8.toBitVec_or, BitVec.getElem_or] at h3
        have h4 : (0 : UInt8).toBitVec[i] = false := by simp
        rw [h4] at h3 ⊢
        cases hb : x.toBitVec[i] with
        | false => rfl
        | true => rw [hb] at h3; simp at h3
      exact hx this
theorem numL_map (p : List UInt8) (x : UInt8) (h : numL p = 0) : numL (p.map (· ||| x)) = 0 := by
  by_cases hx : x = 0
  · subst hx
    rw [show (p.map (· ||| (0 : UInt8))) = p by simp]; exact h
  · exact numL_or p x hx
end Go.Proofs.YtgcbmjflodgnbaaGreatDoor
namespace Go.Proofs.YtgcbmjflodgnbaaGreatDoor
set_option maxRecDepth 100000
set_option linter.unusedVariables false
open Go Go.RowKit

def padL (r : List UInt8) (i j : Nat) : UInt8 := (pageL r i).getD j 255
/-- A record's page stands at P. -/
def PgAt (b : List UInt8) (P : Nat) (r : List UInt8) (i : Nat) : Prop := ∀ j, j < 64 → b[P + j]? = some (padL r i j)
/-- No record's head stands at P. -/
def NoHdr (b : List UInt8) (P : Nat) : Prop := ∃ u v, b[P]? = some u ∧ b[P + 3]? = some v ∧ (u ≠ 1 ∨ v ≠ 0)
theorem pageL_len (r : List UInt8) (i : Nat) : 1 ≤ (pageL r i).length ∧ (pageL r i).length ≤ 64 := by
  unfold pageL; split
  · simp [leList_length]; omega
  · simp; omega
theorem pageL_b0 (r : List UInt8) (i : Nat) (hi : i ≠ 0) : (pageL r i)[0]? = some 2 := by unfold pageL; rw [if_neg hi]; rfl
theorem pageL_h (r : List UInt8) : (pageL r 0)[0]? = some 1 ∧ (pageL r 0)[3]? = some 255 := by
  unfold pageL; rw [if_pos rfl]
  refine ⟨rfl, ?_⟩
  rw [List.getElem?_cons_succ, List.getElem?_append_right (by rw [leList_length]; omega), leList_length]; rfl
theorem PgAt.no {b : List UInt8} {P : Nat} {r : List UInt8} {i : Nat} (h : PgAt b P r i) : NoHdr b P := by
  refine ⟨_, _, h 0 (by omega), h 3 (by omega), ?_⟩
  by_cases hi : i = 0
  · subst hi; right; unfold padL; rw [List.getD_eq_getElem?_getD, (pageL_h r).2]; decide
  · left; unfold padL; rw [List.getD_eq_getElem?_getD, pageL_b0 r i hi]; decide
theorem Er.no {b : List UInt8} {P n : Nat} (h : Er b P n) (hn : 64 ≤ n) : NoHdr b P := ⟨255, 255, h P (by omega) (by omega), h (P + 3) (by omega) (by omega), .inl (by decide)⟩
theorem NoHdr.congr {b b' : List UInt8} {P : Nat} (h : NoHdr b P) (h0 : b'[P]? = b[P]?) (h3 : b'[P + 3]? = b[P + 3]?) : NoHdr b' P := by
  obtain ⟨u, v, a, c, d⟩ := h
  exact ⟨u, v, h0.trans a, h3.trans c, d⟩
/-- What writing pages leaves. -/
structure PgsOut (F B : Nat) (A : Nat) (r : List UInt8) (m i : Nat) (s : FS) (l : LS) (R : FS × LS × Int) : Prop where
  ok : R.1.Ok
  n : R.1.n = s.n
  len : R.1.b.length = s.b.length
  out : ∀ k, (k < A + 64 * i ∨ A + 64 * (i + m) ≤ k) → R.1.b[k]? = s.b[k]?
  res : (R.2.2 = 0 ∧ R.1.dead = false ∧ R.2.1 = l ∧ ∀ j, j < m → PgAt R.1.b (A + 64 * (i + j)) r (i + j)) ∨ (R.2.2 = 2 ∧ R.1.dead = true ∧ R.2.1 = l.told 2 ∧ ∀ j, j < m → NoHdr R.1.b (A + 64 * (i + j)))
  still : s.Still → R.2.2 = 0 ∧ R.1.Still
theorem told0 (l : LS) : l.told 0 = l := by unfold LS.told; simp
theorem goes_still {s : FS} (h : s.Still) : s.goes = false := (FS.Still.step h).2
theorem wr_still {s : FS} (h : s.Still) (A : Nat) (l : List UInt8) : (s.wr A l).Still := ⟨(FS.Still.step h).1.armed, (FS.Still.step h).1.dead⟩
theorem lpages_out (F B : Nat) (at_ : Nat) (r : List UInt8) (h64 : at_ % 64 = 0) : ∀ (m i : Nat) (s : FS) (l : LS), s.dead = false → s.Ok → In s.n.length F B → at_ + 64 * (i + m) ≤ 512 * B → Er s.b (512 * F + at_ + 64 * i) (64 * m) →
    PgsOut F B (512 * F + at_) r m i s l (FS.lpages F B at_ r m i s l)
  | 0, i, s, l, hd, hok, hin, hb, he => ⟨hok, rfl, rfl, fun _ _ => rfl, .inl ⟨rfl, hd, rfl, fun j hj => by omega⟩, fun h => ⟨rfl, h⟩⟩
  | m + 1, i, s, l, hd, hok, hin, hb, he => by
    have hpl := pageL_len r i
    have hw := lw_one (s := s) (F := F) (B := B) (at_ := at_ + 64 * i) (l := pageL r i) hd hok hin (by intro h; rw [h] at hpl; simp at hpl) (by omega) (by omega)
    have e1 : FS.lpages F B at_ r (m + 1) i s l = if (s.lwrite F B l (at_ + 64 * i) (pageL r i)).2.2 ≠ 0 then s.lwrite F B l (at_ + 64 * i) (pageL r i) else FS.lpages F B at_ r m (i + 1) (s.lwrite F B l (at_ + 64 * i) (pageL r i)).1 (s.lwrite F B l (at_ + 64 * i) (pageL r i)).2.1 := rfl
    rw [e1]
    unfold FS.lwrite
    rw [hw]
    dsimp only
    obtain ⟨ok1, n1, l1⟩ := wr_ok hok (512 * F + (at_ + 64 * i)) (pageL r i)
    have hPA : 512 * F + (at_ + 64 * i) = 512 * F + at_ + 64 * i := by omega
    have hcell : ∀ j c, (pageL r i)[j]? = some c → (s.wr (512 * F + (at_ + 64 * i)) (pageL r i)).b[512 * F + at_ + 64 * i + j]? = some (s.wb j c) := fun j c hc => by
      have hj := (List.getElem?_eq_some_iff.1 hc).1
      have := wr_in s (512 * F + (at_ + 64 * i)) (pageL r i) j c hc (he _ (by omega) (by omega))
      rw [hPA] at this ⊢; exact this
    have hout : ∀ k, (k < 512 * F + at_ + 64 * i ∨ 512 * F + at_ + 64 * i + (pageL r i).length ≤ k) → (s.wr (512 * F + (at_ + 64 * i)) (pageL r i)).b[k]? = s.b[k]? := fun k hk => wr_out s _ _ k (by omega)
    cases hg : s.goes with
    | true =>
      rw [toldI_t, if_pos (by decide)]
      refine ⟨ok1, n1, l1, fun k hk => hout k (by omega), .inr ⟨rfl, ?_, rfl, fun j hj => ?_⟩, fun h => ?_⟩
      · show (s.wr _ _).dead = true
        rw [wr_dead hd]; exact hg
      · show NoHdr (s.wr _ _).b _
        rcases Nat.eq_zero_or_pos j with rfl | hj0
        · rw [Nat.add_zero]
          by_cases hi : i = 0
          · subst hi
            refine ⟨_, _, hcell 0 1 (pageL_h r).1, hcell 3 255 (pageL_h r).2, .inr ?_⟩
            rw [lwb_255]; decide
          · have h0 := hcell 0 2 (pageL_b0 r i hi)
            have h3 : ∃ v, (s.wr (512 * F + (at_ + 64 * i)) (pageL r i)).b[512 * F + at_ + 64 * i + 3]? = some v := by
              rw [← Option.isSome_iff_exists, List.getElem?_eq_getElem (by
                have := (List.getElem?_eq_some_iff.1 (he (512 * F + at_ + 64 * i + 3) (by omega) (by omega))).1
                rw [l1]; exact this)]; rfl
            obtain ⟨v, hv⟩ := h3
            exact ⟨_, v, h0, hv, .inl (lwb_2 s 0)⟩
        · have hz : ∀ d, d < 4 → (s.wr (512 * F + (at_ + 64 * i)) (pageL r i)).b[512 * F + at_ + 64 * (i + j) + d]? = some 255 := fun d hd4 => by
            rw [hout _ (by omega)]; exact he _ (by omega) (by omega)
          exact ⟨255, 255, by simpa using hz 0 (by omega), hz 3 (by omega), .inl (by decide)⟩
      · rw [goes_still h] at hg; cases hg
    | false =>
      rw [toldI_f, if_neg (by decide), told0]
      have ih := lpages_out F B at_ r h64 m (i + 1) (s.wr (512 * F + (at_ + 64 * i)) (pageL r i)) l (by rw [wr_dead hd]; exact hg) ok1 (by rw [n1]; exact hin) (by omega) (fun k h1 h2 => by rw [hout k (by omega)]; exact he k (by omega) (by omega))
      have hpg : PgAt (FS.lpages F B at_ r m (i + 1) (s.wr (512 * F + (at_ + 64 * i)) (pageL r i)) l).1.b (512 * F + at_ + 64 * i) r i := fun j hj => by
        rw [ih.out _ (by omega)]
        unfold padL; rw [List.getD_eq_getElem?_getD]
        cases hc : (pageL r i)[j]? with
        | some c => rw [hcell j c hc, lwb_go hg]; rfl
        | none =>
          have := List.getElem?_eq_none_iff.1 hc
          rw [hout _ (by omega), he _ (by omega) (by omega)]; rfl
      refine ⟨ih.ok, ih.n.trans n1, ih.len.trans l1, fun k hk => by rw [ih.out k (by omega), hout k (by omega)], ?_, fun h => ih.still (wr_still h _ _)⟩
      rcases ih.res with ⟨a, b, c, d⟩ | ⟨a, b, c, d⟩
      · refine .inl ⟨a, b, c, fun j hj => ?_⟩
        rcases Nat.eq_zero_or_pos j with rfl | hj0
        · exact hpg
        · have := d (j - 1) (by omega)
          rw [show i + 1 + (j - 1) = i + j by omega] at this; exact this
      · refine .inr ⟨a, b, c, fun j hj => ?_⟩
        rcases Nat.eq_zero_or_pos j with rfl | hj0
        · exact hpg.no
        · have := d (j - 1) (by omega)
          rw [show i + 1 + (j - 1) = i + j by omega] at this; exact this
end Go.Proofs.YtgcbmjflodgnbaaGreatDoor
