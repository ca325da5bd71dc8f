/- Logs: Append. Images in slots: how a writer lies in memory; a page is written; Begin, Size, Read. The flash: a torn step: plain laws. The flash: which bits a call may set or clear: plain laws. The document's flash: what reads or writes its fields alone. The document's flash: Program. -/
import Derived.Test.YtjednaendedpdaaGreatM06
import Derived.Test.YtjednaendedpdaaGreatM04
import Derived.Test.YtjednaendedpdaaGreatM05
import Derived.Deep.DeepCutAuto
import Derived.Deep.CutBlock
import Derived.Test.YtjednaendedpdaaGreatM02
import Derived.Laws.BitsAllLaws
import Derived.IntWalk
namespace Go.Proofs.YtjednaendedpdaaGreat
set_option maxRecDepth 100000
set_option linter.unusedVariables false
open Go Go.RowKit

theorem lpages_snoc (F B : Int) (a : Nat) (r : List UInt8) : ∀ (m i : Nat) (s : FS) (l : LS), FS.lpages F B a r (m + 1) i s l = if (FS.lpages F B a r m i s l).2.2 ≠ 0 then FS.lpages F B a r m i s l else (FS.lpages F B a r m i s l).1.lwrite F B (FS.lpages F B a r m i s l).2.1 (a + 64 * (i + m)) (pageL r (i + m))
  | 0, i, s, l => by
    have e0 : FS.lpages F B a r 0 i s l = (s, l, 0) := rfl
    have e1 : FS.lpages F B a r (0 + 1) i s l = if (s.lwrite F B l (a + 64 * i) (pageL r i)).2.2 ≠ 0 then s.lwrite F B l (a + 64 * i) (pageL r i) else ((s.lwrite F B l (a + 64 * i) (pageL r i)).1, (s.lwrite F B l (a + 64 * i) (pageL r i)).2.1, 0) := rfl
    rw [e0, e1, Nat.add_zero]
    show _ = if (0 : Int) ≠ 0 then _ else s.lwrite F B l (a + 64 * i) (pageL r i)
    rw [if_neg (show ¬ (0 : Int) ≠ 0 by simp)]
    generalize s.lwrite F B l (a + 64 * i) (pageL r i) = c
    obtain ⟨c1, c2, c3⟩ := c
    dsimp only
    split
    · rfl
    · rename_i h
      have h0 : c3 = 0 := Classical.byContradiction h
      rw [h0]
  | m + 1, i, s, l => by
    have e1 : ∀ n, FS.lpages F B a r (n + 1) i s l = if (s.lwrite F B l (a + 64 * i) (pageL r i)).2.2 ≠ 0 then s.lwrite F B l (a + 64 * i) (pageL r i) else FS.lpages F B a r n (i + 1) (s.lwrite F B l (a + 64 * i) (pageL r i)).1 (s.lwrite F B l (a + 64 * i) (pageL r i)).2.1 := fun _ => rfl
    rw [e1 (m + 1), e1 m]
    by_cases h : (s.lwrite F B l (a + 64 * i) (pageL r i)).2.2 ≠ 0
    · simp only [if_pos h]
    · simp only [if_neg h]
      rw [lpages_snoc F B a r m (i + 1), show i + 1 + m = i + (m + 1) by omega]
theorem lpages_stay (F B : Int) (a : Nat) (r : List UInt8) (i : Nat) (s : FS) (l : LS) (k : Nat) (h : (FS.lpages F B a r k i s l).2.2 ≠ 0) : ∀ m, FS.lpages F B a r (k + m) i s l = FS.lpages F B a r k i s l
  | 0 => rfl
  | m + 1 => by
    rw [show k + (m + 1) = (k + m) + 1 by omega, lpages_snoc, lpages_stay F B a r i s l k h m, if_pos h]
theorem own_form {w : World} {base : Nat} {e : TypeId} {size : Nat} {v : Value} {n : Nat} {xs : List Value} (h : w.ownsRow base e size v n xs) (hn : 0 < n) : ∃ g cap, v = .slice (some ⟨g, 0, none⟩) n cap := by
  rcases h.2 with ⟨_, h0⟩ | ⟨g, cap, cur, hv, _⟩
  · omega
  · exact ⟨g, cap, hv⟩
theorem lmakes_segs (s : FS) (F B : Int) (l : LS) (b num : Nat) (h : (s.lmakes F B l b num).2.2 = 0) : (s.lmakes F B l b num).2.1.segs = l.segs ++ [(b, num)] := by
  unfold FS.lmakes at h ⊢
  dsimp only at h ⊢
  split at h
  · rename_i h1; exact absurd h h1
  · rename_i h1; rw [if_neg h1]
    split at h
    · rename_i h2; exact absurd h h2
    · rename_i h2; rw [if_neg h2]
      split at h
      · rename_i h3; exact absurd h h3
      · rename_i h3; rw [if_neg h3]; rfl
set_option maxHeartbeats 4000000 in
theorem lappend_any (g q p bb cb : Nat) (F B : Nat) (v : Value) (s : FS) (l : LS) (r : ByteArray) (spare : Int) (w : World) (h : LgS w (F : Nat) (B : Nat) g q p bb cb v s l) (hk : l.Ok B) (hr : r.size ≤ 9223372036854775807) (hn : l.newest.2 + 1 < 281474976710656) :
    Calls Tryz.prog 16 #[.pointer (some ⟨g, 0, none⟩), .string r, .int .i64 spare] w fun e w' => e = .returned (.int .i64 (s.lappend F B l r.data.toList spare).2.2) ∧
      (∃ v', LgS w' (F : Nat) (B : Nat) g q p bb cb v' (s.lappend F B l r.data.toList spare).1 (s.lappend F B l r.data.toList spare).2.1 ∧ ∀ j, v'.ownBlock = some j → v.ownBlock = some j ∨ w.heap.size ≤ j) ∧ Upd (fp g v p bb cb) w w' := by
  have hB : B ≤ 256 := by have h1 := h.i.hi; have h2 := h.i.lo; have h3 := h.i.few; omega
  obtain ⟨R, hR⟩ : ∃ R, R = s.lappend F B l r.data.toList spare := ⟨_, rfl⟩
  rw [← hR]
  have hrl : r.data.toList.length = r.size := by simp
  unfold FS.lappend at hR
  rw [hrl] at hR
  obtain ⟨c0, c1, c2⟩ := h.lg.cells
  have PG := Box.mk (fun w => pages_any r.size hr w)
  have H := Box.mk h; have HK := Box.mk hk; have HN := Box.mk hn; have HB := Box.mk hB
  clear h hk hn hB
  by_cases hsp : spare < 0
  · rw [if_pos hsp] at hR
    have HR := Box.mk hR
    clear hR
    go_enter Tryz.func16, Tryz.ntmps16
    go_wp2_with fail
    refine (PG.out _).mono ?_
    rintro e w1 ⟨rfl, rfl⟩
    go_wp2_with fail
    go_ret
    rw [HR.out]
    exact ⟨rfl, ⟨v, H.out, fun j hj => .inl hj⟩, Upd.refl _ _⟩
  · rw [if_neg hsp] at hR
    by_cases hlo : 400 < r.size
    · rw [if_pos hlo] at hR
      have HR := Box.mk hR
      have h0 : pgs r.size = 0 := by unfold pgs; rw [if_pos hlo]
      rw [h0] at PG
      clear hR hlo h0
      go_enter Tryz.func16, Tryz.ntmps16
      go_wp2_with fail
      refine (PG.out _).mono ?_
      rintro e w1 ⟨rfl, rfl⟩
      go_wp2_with fail
      go_ret
      rw [HR.out]
      exact ⟨rfl, ⟨v, H.out, fun j hj => .inl hj⟩, Upd.refl _ _⟩
    · rw [if_neg hlo] at hR
      have hr400 : r.size ≤ 400 := by omega
      have hpp := pgs_pos hr400
      have hp0 : ¬ ((pgs r.size : Nat) : Int) = 0 := by omega
      cases hld : l.dead with
      | true =>
        rw [hld, if_pos rfl] at hR
        rw [hld] at c2
        have HR := Box.mk hR
        clear hR hlo
        go_enter Tryz.func16, Tryz.ntmps16
        go_wp2_with fail
        refine (PG.out _).mono ?_
        rintro e w1 ⟨rfl, rfl⟩
        go_wp2_with fail
        go_ret
        rw [HR.out]
        exact ⟨rfl, ⟨v, H.out, fun j hj => .inl hj⟩, Upd.refl _ _⟩
      | false =>
        rw [hld, if_neg (by decide)] at hR
        rw [hld] at c2
        cases hsd : s.dead with
        | true =>
          rw [hsd, if_pos rfl] at hR
          have HR := Box.mk hR
          clear hR hlo
          have PD := Box.mk (pdead_any q p bb cb (F : Nat) (B : Nat) s w H.out.f H.out.pa)
          rw [hsd] at PD
          go_enter Tryz.func16, Tryz.ntmps16
          go_wp2_with fail
          refine (PG.out _).mono ?_
          rintro e w1 ⟨rfl, rfl⟩
          go_wp2_with fail
          refine PD.out.mono ?_
          rintro e w1 ⟨rfl, rfl⟩
          go_wp2_with fail
          refine (ltold_any g q v l 2 _ H.out.lg H.out.vg).mono ?_
          rintro e w1 ⟨rfl, hl, hu⟩
          have H1 := Box.mk (H.out.own hl hu); have U1 := Box.mk (hu.mono (T := fp g v p bb cb) (by simp [fp])); clear hl hu
          go_wp2_with fail
          go_ret
          rw [HR.out]
          exact ⟨rfl, ⟨v, H1.out, fun j hj => .inl hj⟩, U1.out⟩
        | false =>
          rw [hsd, if_neg (by decide)] at hR
          have HR := Box.mk hR
          clear hR hlo
          have PD := Box.mk (pdead_any q p bb cb (F : Nat) (B : Nat) s w H.out.f H.out.pa)
          rw [hsd] at PD
          go_enter Tryz.func16, Tryz.ntmps16
          go_wp2_with fail
          refine (PG.out _).mono ?_
          rintro e w1 ⟨rfl, rfl⟩
          go_wp2_with fail
          refine PD.out.mono ?_
          rintro e w1 ⟨rfl, rfl⟩
          have ROOM := Box.mk (lroom_any g q p bb cb F B v s l w H.out HK.out)
          go_wp2_with fail
          refine ROOM.out.mono ?_
          rintro e w1 ⟨rfl, h1, u1⟩
          have H1 := Box.mk h1; have U1 := Box.mk (u1.mono (T := fp g v p bb cb) (by simp))
          clear h1 u1 ROOM PD c0 c1 c2
          go_upto_if 38 with (fail)
          go_cut [8, 9] (fun _ _ wx => ∃ s1 l1 v1, LgS wx (F : Nat) (B : Nat) g q p bb cb v1 s1 l1 ∧ l1.Ok B ∧ R = s1.lput F B l1 r.data.toList ∧ Upd (fp g v p bb cb) w wx ∧ ∀ j, v1.ownBlock = some j → v.ownBlock = some j ∨ w.heap.size ≤ j)
          case first =>
            by_cases hgt : s.lroom F l < pgs r.size
            · have hgtI : ((s.lroom F l : Nat) : Int) < ((pgs r.size : Nat) : Int) := by omega
              have hr1 := HR.out
              rw [if_pos hgt] at hr1
              have FR := Box.mk (lfree_any g q p bb cb (F : Nat) B v s l w1 H1.out HK.out.few)
              clear hgt
              by_cases hfs : ((B - l.segs.length : Nat) : Int) ≤ spare
              · rw [if_pos hfs] at hr1
                have HR := Box.mk hr1
                clear hr1
                go_wp2_with fail
                refine FR.out.mono ?_
                rintro e w2 ⟨rfl, h2, u2⟩
                have H2 := Box.mk h2; have U2 := Box.mk (U1.out.trans (u2.mono (T := fp g v p bb cb) (by simp)))
                clear h2 u2 FR H1 U1
                go_wp2_with fail
                go_ret
                rw [HR.out]
                exact ⟨rfl, ⟨v, H2.out, fun j hj => .inl hj⟩, U2.out⟩
              · rw [if_neg hfs] at hr1
                have HR := Box.mk hr1
                clear hr1
                have HFS := Box.mk hfs
                have hnb : l.newest.1 < B := HK.out.blk _ (LS.newest_mem HK.out.ne)
                have NW := Box.mk (fun w h => lnewest_any g q p bb cb (F : Nat) (B : Nat) v s l w h HK.out.ne (by have := HK.out.few; have := HB.out; omega))
                have BL := Box.mk (fun w (h : LgS w (F : Nat) (B : Nat) g q p bb cb v s l) => lblocks_any g q p (F : Nat) (B : Nat) s.n.length v l w h.lg h.pa h.i)
                have hn := HN.out
                have MK0 := Box.mk (fun w h => lmakes_any g q p bb cb (F : Nat) (B : Nat) v s l ((l.newest.1 + 1) % B) (l.newest.2 + 1) w h (by have := Nat.mod_lt (l.newest.1 + 1) (show 0 < B by omega); have := HB.out; omega) hn (by have := HK.out.few; have := HB.out; omega))
                obtain ⟨nn, hnn⟩ : ∃ n, n = l.newest := ⟨_, rfl⟩
                have HNN := Box.mk hnn
                rw [← hnn] at NW MK0 hn HR hnb
                obtain ⟨nb, nv⟩ := nn
                dsimp only at NW MK0 HR hn hnb
                have hB256 : B ≤ 256 := HB.out
                obtain ⟨nb1, hnb1, HN1⟩ : ∃ x : Nat, IntKind.i64.wrap ((nb : Int) + 1) = (x : Int) ∧ Box (x = nb + 1) := ⟨nb + 1, by rw [IntKind.wrap_i64]; omega, ⟨rfl⟩⟩
                obtain ⟨nv1, hnv1, HN2⟩ : ∃ x : Nat, IntKind.i64.wrap ((nv : Int) + 1) = (x : Int) ∧ Box (x = nv + 1) := ⟨nv + 1, by rw [IntKind.wrap_i64]; omega, ⟨rfl⟩⟩
                obtain ⟨nx, hnx, HN3⟩ : ∃ x : Nat, (nb1 : Int).tmod (B : Int) = (x : Int) ∧ Box (x = (nb + 1) % B) := ⟨(nb + 1) % B, by rw [HN1.out]; rfl, ⟨rfl⟩⟩
                have hB0 : ¬ (B : Int) = 0 := by omega
                have hBN : ¬ B = 0 := by omega
                rw [← HN3.out, ← HN2.out] at MK0 HR
                have HMK := Box.mk (FS.lmakes_ok H1.out.ok (F : Nat) (B : Nat) l nx nv1)
                have SGS : Box ((s.lmakes F B l nx nv1).2.2 = 0 → (s.lmakes F B l nx nv1).2.1.segs = l.segs ++ [(nx, nv1)]) := ⟨lmakes_segs s F B l nx nv1⟩
                have HNX : Box (nx < B) := ⟨by rw [HN3.out]; exact Nat.mod_lt _ (by omega)⟩
                have MK := MK0
                generalize s.lmakes F B l nx nv1 = m at MK HR HMK SGS
                obtain ⟨m1, m2, m3⟩ := m
                dsimp only at MK HR HMK SGS
                clear hfs hn hnn hnb hB256 MK0
                go_wp2_with fail
                refine FR.out.mono ?_
                rintro e w2 ⟨rfl, h2, u2⟩
                have H2 := Box.mk h2; have U2 := Box.mk (U1.out.trans (u2.mono (T := fp g v p bb cb) (by simp)))
                clear h2 u2 FR H1 U1
                have hfsI : ¬ ((B - l.segs.length : Nat) : Int) ≤ spare := by have := HFS.out; omega
                go_wp2_with fail
                refine (NW.out _ H2.out).mono ?_
                rintro e w3 ⟨rfl, h3, u3⟩
                have H3 := Box.mk h3; have U3 := Box.mk (U2.out.trans (u3.mono (T := fp g v p bb cb) (by simp)))
                clear h3 u3 H2 U2 hfsI
                go_upto_region 14 with (fail)
                obtain ⟨W2, hW2⟩ : ∃ W, W = w3.alloc (.cells #[.int .i64 (nb : Nat), .int .i64 (nv : Nat)] 78) := ⟨_, rfl⟩
                rw [← hW2]
                obtain ⟨z, hz⟩ : ∃ z, z = w3.heap.size := ⟨_, rfl⟩
                rw [← hz]
                have HZ : Box (W2.heap[z]? = some (.cells #[.int .i64 (nb : Nat), .int .i64 (nv : Nat)] 78 (0, 0))) := ⟨by rw [hW2, hz]; exact heap_alloc_new _ _⟩
                have uz : Upd [] w3 W2 := by rw [hW2]; exact (Upd.refl [] w3).alloc _
                have HW := Box.mk (H3.out.keep uz)
                have U4 := Box.mk (U3.out.trans (uz.mono (T := fp g v p bb cb) (by simp)))
                have LT3 : Box (∀ k ∈ fp g v p bb cb, k < w3.heap.size) := ⟨by
                  have h1 := H3.out.f.lt; have h2 := H3.out.lg.lt
                  intro k hk; unfold fp at hk
                  simp only [List.mem_cons, Option.mem_toList] at hk
                  rcases hk with rfl | rfl | rfl | rfl | hk
                  · exact h2
                  · exact h1.1
                  · exact h1.2.1
                  · exact h1.2.2
                  · exact (World.ownsRow.lt H3.out.lg.own k hk).2⟩
                have NZ : Box (z ∉ fp g v p bb cb) := ⟨fun h => by have := LT3.out z h; omega⟩
                have LT : Box (∀ k ∈ fp g v p bb cb, k < W2.heap.size) := ⟨fun k hk => by have := LT3.out k hk; have := uz.size; omega⟩
                clear hW2 hz uz H3 U3 LT3
                refine wp_region_mixS (fp g v p bb cb) (fun w => LgS w (F : Nat) (B : Nat) g q p bb cb v s l ∧ w.heap[z]? = some (.cells #[.int .i64 (nb : Nat), .int .i64 (nv : Nat)] 78 (0, 0))) (fun w w' hg h => ⟨h.1.keep hg.upd, hg.block h.2⟩) ⟨HW.out.keep (Upd.refl [] W2).drew, HZ.out⟩ (LT.out) 11 [.flo, .flo, .flo, .flo, .flo, .cha, .flo, .flo, .flo, .flo, .cha] (by kernel_rfl) (by kernel_rfl) rfl ?_
                simp only [List.take, List.zip, List.zipWith]
                try go_frame
                refine gm_move (.tmp 0) (.inl rfl) (.pointer (some ⟨g, 0, none⟩)) rfl ?_
                try go_frame
                refine gm_flo (.pointer (some ⟨z, 0, none⟩)) (fun w1 hw1 => ?_) ?_
                case refine_1 =>
                  go_simp
                try go_frame
                refine gm_flo (.int .i64 (nb : Nat)) (fun w1 hw1 => ?_) ?_
                case refine_1 =>
                  have e1 : w1.cell? ⟨z, 0, none⟩ = some (.int .i64 (nb : Nat)) := (cell_of_row _ _ _ _ _ _ (hw1.at (NZ.out) HZ.out)).trans rfl
                  go_simp
                try go_frame
                refine gm_flo (.int .i64 (nb1 : Nat)) (fun w1 hw1 => ?_) ?_
                case refine_1 =>
                  go_simp
                try go_frame
                refine gm_move (.tmp 0) (.inl rfl) (.pointer (some ⟨g, 0, none⟩)) rfl ?_
                try go_frame
                refine gm_callS [.pointer (some ⟨g, 0, none⟩)] (by kernel_rfl) rfl rfl (fun w1 hw1 hF1 => (BL.out w1 hF1.1).mono ?_)
                rintro e w2 ⟨rfl, rfl⟩
                refine ⟨_, rfl, GrS.refl _ _, (fun w => LgS w (F : Nat) (B : Nat) g q p bb cb v s l ∧ w.heap[z]? = some (.cells #[.int .i64 (nb : Nat), .int .i64 (nv : Nat)] 78 (0, 0))), (fun w w' hg h => ⟨h.1.keep hg.upd, hg.block h.2⟩), hF1, ?_⟩
                clear hw1 hF1 w1
                try go_frame
                refine gm_flo (.int .i64 (nx : Nat)) (fun w1 hw1 => ?_) ?_
                case refine_1 =>
                  go_simp
                try go_frame
                refine gm_flo (.pointer (some ⟨z, 1, none⟩)) (fun w1 hw1 => ?_) ?_
                case refine_1 =>
                  go_simp
                try go_frame
                refine gm_flo (.int .i64 (nv : Nat)) (fun w1 hw1 => ?_) ?_
                case refine_1 =>
                  have e1 : w1.cell? ⟨z, 1, none⟩ = some (.int .i64 (nv : Nat)) := (cell_of_row _ _ _ _ _ _ (hw1.at (NZ.out) HZ.out)).trans rfl
                  go_simp
                try go_frame
                refine gm_flo (.int .i64 (nv1 : Nat)) (fun w1 hw1 => ?_) ?_
                case refine_1 =>
                  go_simp
                try go_frame
                refine gm_callS [.pointer (some ⟨g, 0, none⟩), .int .i64 (nx : Nat), .int .i64 (nv1 : Nat)] (by kernel_rfl) rfl rfl (fun w1 hw1 hF1 => (MK.out w1 hF1.1).mono ?_)
                rintro e w2 ⟨rfl, ⟨v1, hs, hv⟩, hu⟩
                refine ⟨_, rfl, GrS.of_upd hu (fun _ h => h), (fun w => LgS w (F : Nat) (B : Nat) g q p bb cb v1 m1 m2), (fun w w' hg h => h.keep hg.upd), hs, ?_⟩
                have HV : Box (∀ j, v1.ownBlock = some j → v.ownBlock = some j ∨ W2.heap.size ≤ j) := ⟨fun j hj => (hv j hj).imp id fun h => Nat.le_trans hw1.size h⟩
                clear hw1 hF1 hs hu hv w1 w2
                try go_frame
                refine gm_nil ?_
                intro w9 hw9 hF9
                simp only [List.drop]
                try go_frame
                have H9 := Box.mk hF9; have U9 := Box.mk (U4.out.trans ((Upd.refl (fp g v p bb cb) W2).drew.trans hw9.upd)); have S9 := Box.mk U4.out.size
                clear hF9 hw9
                by_cases hm : m3 = 0
                · have hmb : (m3 != 0) = false := by simpa using hm
                  have hr2 := HR.out
                  rw [if_neg (by simpa using hm)] at hr2
                  have HR2 := Box.mk hr2
                  have HSG := Box.mk (SGS.out hm)
                  clear hr2 hm
                  go_wp2_with fail
                  go_meet
                  refine ⟨m1, m2, v1, H9.out, ⟨by rw [HSG.out]; simp, ?_, fun x hx => ?_⟩, HR2.out, U9.out, fun j hj => (HV.out j hj).imp id fun h => Nat.le_trans S9.out h⟩
                  · have := HFS.out; have := HK.out.few
                    rw [HSG.out, List.length_append, List.length_singleton]
                    have hsp0 : 0 ≤ spare := by omega
                    omega
                  · rw [HSG.out] at hx
                    rcases List.mem_append.1 hx with hx | hx
                    · exact HK.out.blk x hx
                    · rw [List.mem_singleton] at hx; subst hx; exact HNX.out
                · have hmb : (m3 != 0) = true := by rw [bne_iff_ne]; exact hm
                  have hr2 := HR.out
                  rw [if_pos (by simpa using hm)] at hr2
                  obtain rfl := hr2
                  clear hm
                  go_wp2_with fail
                  go_ret
                  exact ⟨rfl, ⟨v1, H9.out, fun j hj => (HV.out j hj).imp id fun h => Nat.le_trans S9.out h⟩, U9.out⟩
            · have hgtI : ¬ ((s.lroom F l : Nat) : Int) < ((pgs r.size : Nat) : Int) := by omega
              have hr1 := HR.out
              rw [if_neg hgt] at hr1
              have HR := Box.mk hr1
              clear hr1 hgt
              go_wp2_with fail
              go_meet
              exact ⟨s, l, v, H1.out, HK.out, HR.out, U1.out, fun j hj => .inl hj⟩
          case rest =>
            obtain ⟨s1, l1, v1, h1, hk1, hR1, u1, hv1⟩ := hcut
            have H2 := Box.mk h1; have K2 := Box.mk hk1; have HR2 := Box.mk hR1; have U2 := Box.mk u1; have HV := Box.mk hv1
            have hB256 : B ≤ 256 := HB.out
            have NW := Box.mk (lnewest_any g q p bb cb (F : Nat) (B : Nat) v1 s1 l1 wc h1 hk1.ne (by have := hk1.few; omega))
            have RM := Box.mk (fun w h => lroom_any g q p bb cb F B v1 s1 l1 w h hk1)
            have hnb : l1.newest.1 < B := hk1.blk _ (LS.newest_mem hk1.ne)
            unfold FS.lput at hR1
            have hrm : s1.lroom F l1 ≤ 7 := by unfold FS.lroom; split; omega; exact runB_le _ _
            generalize s1.lroom F l1 = rm at RM hR1 hrm
            generalize hnn : l1.newest = nn at NW hR1 hnb
            obtain ⟨nb, nv⟩ := nn
            dsimp only at NW hR1 hnb
            obtain ⟨a1, ha1, HA1⟩ : ∃ x : Nat, IntKind.i64.wrap ((nb : Int) * 512) = (x : Int) ∧ Box (x = 512 * nb) := ⟨512 * nb, by rw [IntKind.wrap_i64]; omega, ⟨rfl⟩⟩
            obtain ⟨a2, ha2, HA2⟩ : ∃ x : Nat, IntKind.i64.wrap (8 - (rm : Int)) = (x : Int) ∧ Box (x = 8 - rm) := ⟨8 - rm, by rw [IntKind.wrap_i64]; omega, ⟨rfl⟩⟩
            obtain ⟨a3, ha3, HA3⟩ : ∃ x : Nat, IntKind.i64.wrap ((a2 : Int) * 64) = (x : Int) ∧ Box (x = 64 * (8 - rm)) := ⟨64 * (8 - rm), by rw [IntKind.wrap_i64, HA2.out]; omega, ⟨rfl⟩⟩
            obtain ⟨A, hA, HA⟩ : ∃ x : Nat, IntKind.i64.wrap ((a1 : Int) + (a3 : Int)) = (x : Int) ∧ Box (x = 512 * nb + 64 * (8 - rm)) := ⟨512 * nb + 64 * (8 - rm), by rw [IntKind.wrap_i64, HA1.out, HA3.out]; omega, ⟨rfl⟩⟩
            rw [← HA.out] at hR1
            have hA2 : A ≤ 200000 := by have := HA.out; omega
            have HR3 := Box.mk hR1
            clear hR1 h1 hk1 u1 hv1 hnb hrm hB256 hnn
            have sf : ∀ w, (Instr.field 78 (.agg #[.int .i64 (nb : Int), .int .i64 (nv : Int)]) 0).run Tryz.prog w = .ok (.int .i64 (nb : Int)) w := fun w => (seg_fld _ _ w).1
            go_wp2_with fail
            refine NW.out.mono ?_
            rintro e w2 ⟨rfl, h2, u2⟩
            have H3 := Box.mk h2; have U3 := Box.mk (U2.out.trans (u2.mono (T := fp g v p bb cb) (by simp)))
            clear h2 u2 NW H2 U2
            go_wp2_with fail
            refine (RM.out _ H3.out).mono ?_
            rintro e w3 ⟨rfl, h2, u2⟩
            have H4 := Box.mk h2; have U4 := Box.mk (U3.out.trans (u2.mono (T := fp g v p bb cb) (by simp)))
            clear h2 u2 RM H3 U3
            have LDP := Box.mk (laidp_any r hr400 w3)
            go_wp2_with fail
            refine LDP.out.mono ?_
            rintro e w4 ⟨vl, rfl, hown, hb⟩
            have H5 := Box.mk (H4.out.keep (Upd.of_below hb)); have U5 := Box.mk (U4.out.trans ((Upd.of_below (S := []) hb).mono (T := fp g v p bb cb) (by simp)))
            have OWN := Box.mk hown
            have GL : Box (∀ k, vl.ownBlock = some k → k ∉ [g, p, bb, cb]) := ⟨fun k hk hm => by
              have h1 := (World.ownsRow.lt hown k hk).1
              have h2 := H4.out.f.lt; have h3 := H4.out.lg.lt
              simp only [List.mem_cons, List.not_mem_nil, or_false] at hm; omega⟩
            obtain ⟨m, hm⟩ : ∃ m, m = pgs r.size := ⟨_, rfl⟩
            have hm7 : m ≤ 7 := by rw [hm]; exact hpp.2
            have hm1 : 1 ≤ m := by rw [hm]; exact hpp.1
            have hr3 := HR3.out
            rw [hrl, ← hm] at hr3
            rw [← hm] at OWN
            obtain ⟨gl, cap, rfl⟩ := own_form OWN.out (by omega)
            obtain ⟨P, hP⟩ : ∃ P : Nat → FS × LS × Int, P = fun j => FS.lpages (F : Nat) (B : Nat) A r.data.toList j 0 s1 l1 := ⟨_, rfl⟩
            have HP0 : Box (P 0 = (s1, l1, 0)) := ⟨by rw [hP]; rfl⟩
            have HPS : Box (∀ j, (P j).2.2 = 0 → P (j + 1) = (P j).1.lwrite (F : Nat) (B : Nat) (P j).2.1 (A + 64 * j) (pageL r.data.toList j)) := ⟨fun j h => by
              rw [hP] at h ⊢
              show FS.lpages _ _ _ _ (j + 1) 0 _ _ = _
              rw [lpages_snoc, if_neg (by dsimp only at h; rw [h]; simp), Nat.zero_add]⟩
            have HPT : Box (∀ j, j ≤ m → (P j).2.2 ≠ 0 → P m = P j) := ⟨fun j hj h => by
              rw [hP] at h ⊢
              have := lpages_stay (F : Nat) (B : Nat) A r.data.toList 0 s1 l1 j h (m - j)
              rw [show j + (m - j) = m by omega] at this
              exact this⟩
            have HR4 : Box (R = if (P m).2.2 ≠ 0 then P m else (P m).1.lwrite (F : Nat) (B : Nat) (P m).2.1 (A + 3) [0]) := ⟨by rw [hr3, hP]⟩
            have HM := Box.mk hm
            have S5 := Box.mk (show ∀ k ∈ [g, p, bb, cb], k ∈ fp g v p bb cb from by simp [fp])
            have hmI : ((m : Nat) : Int) ≤ 7 := by omega
            rw [← hm]
            clear hP hr3 hm hown hb H4 U4 HR3 hpp hr400 hp0 HA HA1 HA2 HA3 ha1 ha2 ha3 hA HR2 K2
            go_wp2_with fail
            go_loopw [71, 11, 12, 13] (fun i _ _ _ wr => ∃ j : Nat, j ≤ m ∧ i = .int .i64 (j : Nat) ∧ (P j).2.2 = 0 ∧ LgS wr (F : Nat) (B : Nat) g q p bb cb v1 (P j).1 (P j).2.1 ∧ wr.ownsRow w3.heap.size 9 1 (.slice (some ⟨gl, 0, none⟩) m cap) m ((List.range m).map fun i => .string (pgS r i)) ∧ Upd (fp g v p bb cb) w wr) (fun i _ _ _ _ => m - (intOf i).toNat)
            case atStart => exact ⟨0, by omega, rfl, by rw [HP0.out], by rw [HP0.out]; exact H5.out, OWN.out, U5.out⟩
            case round =>
              clear H5 U5 OWN
              obtain ⟨j, hj, rfl, he0, hs, hown, hu⟩ := hrel
              have HS := Box.mk hs; have HU := Box.mk hu; have HE := Box.mk he0; have OW := Box.mk hown
              obtain ⟨c0, c1, c2⟩ := hs.lg.cells
              by_cases hlt : j < m
              · have hltI : (j : Int) < (m : Int) := by omega
                have hcj : wr.cell? ⟨gl, j, none⟩ = some (.string (pgS r j)) := by
                  rw [hown.cellAt j (by omega)]; simp [hlt]
                obtain ⟨x, hx, HX⟩ : ∃ x : Nat, IntKind.i64.wrap ((j : Int) * 64) = (x : Int) ∧ Box (x = 64 * j) := ⟨64 * j, by rw [IntKind.wrap_i64]; omega, ⟨rfl⟩⟩
                obtain ⟨y, hy, HY⟩ : ∃ y : Nat, IntKind.i64.wrap ((A : Int) + (x : Int)) = (y : Int) ∧ Box (y = A + 64 * j) := ⟨A + 64 * j, by rw [IntKind.wrap_i64, HX.out]; omega, ⟨rfl⟩⟩
                have hpl : (pageL r.data.toList j).length ≤ 64 := by
                  unfold pageL; split <;> simp [leList_length] <;> omega
                have WR := Box.mk (lpwrite_any g q p bb cb (F : Nat) (B : Nat) v1 (P j).1 (P j).2.1 y (pageL r.data.toList j) wr hs (by have := HY.out; omega) (by omega))
                have HN := Box.mk (HPS.out j he0)
                unfold FS.lwrite at HN
                rw [← HY.out] at HN
                generalize (P j).1.pwrite (F : Nat) (B : Nat) (y : Nat) (pageL r.data.toList j) = c at WR HN
                obtain ⟨e1, e2⟩ := c
                dsimp only at WR HN
                have HL := Box.mk hlt
                clear hs hu he0 hown hlt hpl
                change Box (Calls _ _ #[_, _, .string (pgS r j)] _ _) at WR
                go_wp2_with fail
                refine WR.out.mono ?_
                rintro e w5 ⟨rfl, h5, u5⟩
                have H6 := Box.mk h5; have U6 := Box.mk (HU.out.trans (u5.mono (T := fp g v p bb cb) (fun k hk => S5.out k (List.mem_cons_of_mem _ hk))))
                have OW6 := Box.mk (own_keep OW.out (w' := w5) fun k hk hl => u5.block k hl (fun hm => GL.out k hk (List.mem_cons_of_mem _ hm)))
                clear h5 u5 HS HU OW WR c0 c1 c2 hcj
                go_wp2_with fail
                refine (ltold_any g q v1 _ e2 _ H6.out.lg H6.out.vg).mono ?_
                rintro e w6 ⟨rfl, hl, hu⟩
                have H7 := Box.mk (H6.out.own hl hu); have U7 := Box.mk (U6.out.trans (hu.mono (T := fp g v p bb cb) (by simp [fp])))
                have OW7 := Box.mk (own_keep OW6.out (w' := w6) fun k hk hl => hu.block k hl (fun hm => GL.out k hk (by simp at hm; subst hm; exact List.mem_cons_self ..)))
                clear hl hu H6 U6 OW6
                by_cases he2 : e2 = 0
                · have heb : (e2 != 0) = false := by simpa using he2
                  have HE2 := Box.mk he2
                  clear he2
                  go_wp2_with fail
                  exact ⟨⟨j + 1, HL.out, by go_num, by rw [HN.out]; exact HE2.out, by rw [HN.out]; exact H7.out, OW7.out, U7.out⟩, by have := HL.out; simp [intOf]; omega⟩
                · have heb : (e2 != 0) = true := by rw [bne_iff_ne]; exact he2
                  have HRR : Box (R = (e1, (P j).2.1.told e2, e2)) := ⟨by
                    have e := HPT.out (j + 1) HL.out (by rw [HN.out]; exact he2)
                    rw [HR4.out, e, HN.out, if_pos he2]⟩
                  clear he2
                  go_wp2_with fail
                  go_ret
                  rw [HRR.out]
                  exact ⟨rfl, ⟨v1, H7.out, HV.out⟩, U7.out⟩
              · have hltI : ¬ (j : Int) < (m : Int) := by omega
                obtain rfl : j = m := by omega
                have hA3 : IntKind.i64.wrap ((A : Int) + 4) = ((A + 4 : Nat) : Int) := by rw [IntKind.wrap_i64]; omega
                obtain ⟨y, hy, HY⟩ : ∃ y : Nat, IntKind.i64.wrap (IntKind.i64.wrap ((A : Int) + 4) - 1) = (y : Int) ∧ Box (y = A + 3) := ⟨A + 3, by rw [hA3, IntKind.wrap_i64]; omega, ⟨rfl⟩⟩
                have WR := Box.mk (lpwrite_any g q p bb cb (F : Nat) (B : Nat) v1 (P j).1 (P j).2.1 y [0] wr hs (by have := HY.out; omega) (by simp))
                have HRR := HR4.out
                rw [if_neg (by rw [he0]; simp)] at HRR
                unfold FS.lwrite at HRR
                rw [← HY.out] at HRR
                have HRR := Box.mk HRR
                generalize (P j).1.pwrite (F : Nat) (B : Nat) (y : Nat) [0] = c at WR HRR
                obtain ⟨e1, e2⟩ := c
                dsimp only at WR HRR
                clear hs hu he0 hown hlt hA3
                go_wp2_with fail
                rw [show ((A : Int) + 4 - 1) = (y : Int) by have := HY.out; omega]
                refine WR.out.mono ?_
                rintro e w5 ⟨rfl, h5, u5⟩
                have H6 := Box.mk h5; have U6 := Box.mk (HU.out.trans (u5.mono (T := fp g v p bb cb) (fun k hk => S5.out k (List.mem_cons_of_mem _ hk))))
                clear h5 u5 HS HU OW WR c0 c1 c2
                go_wp2_with fail
                refine (ltold_any g q v1 _ e2 _ H6.out.lg H6.out.vg).mono ?_
                rintro e w6 ⟨rfl, hl, hu⟩
                have H7 := Box.mk (H6.out.own hl hu); have U7 := Box.mk (U6.out.trans (hu.mono (T := fp g v p bb cb) (by simp [fp])))
                clear hl hu H6 U6
                go_wp2_with fail
                go_ret
                rw [HRR.out]
                exact ⟨rfl, ⟨v1, H7.out, HV.out⟩, U7.out⟩
end Go.Proofs.YtjednaendedpdaaGreat
namespace Go.Proofs.YtjednaendedpdaaGreat
set_option maxRecDepth 100000
set_option linter.unusedVariables false
open Go Go.RowKit

/-- copy from a string, as much as there is room. -/
theorem run_copy_min {P : Program} (w : World) (dT sT ty elem : TypeId) (g o dLen dCap : Nat) (s : ByteArray) (cur : Array Value) (t : TypeId) (m : Nat) (hm : m = min s.size dLen)
    (hu : P.underlying dT = some (.slice elem)) (hs : (P.info? elem).map (·.size) = some 1) (hg : w.heap[g]? = some (.cells cur t (0, 0))) (hfit : o + m ≤ cur.size) :
    (Builtin.copy_ #[dT, sT] ty #[.slice (some ⟨g, o, none⟩) dLen dCap, .string s]).run P w =
      .ok (goInt m) (w.setRow g (cur.toList.take o ++ (s.data.toList.take m).map bval ++ cur.toList.drop (o + m)).toArray) := by
  have hsz : s.data.toList.length = s.size := by simp
  have hlen : ((s.data.toList.take m).map bval).length = m := by rw [List.length_map, List.length_take, hsz]; omega
  have hst := run_storeCells_at P g o t ((s.data.toList.take m).map bval) 0 cur w hg (by rw [hlen]; simpa using hfit) (by
    intro v hv
    obtain ⟨b, _, rfl⟩ := List.mem_map.1 hv
    rfl)
  have hmin : Nat.min s.size dLen = m := hm.symm
  have htk : List.take m (List.map (fun b : UInt8 => Value.int IntKind.u8 (b.toNat : Int)) s.data.toList) = (s.data.toList.take m).map bval := by
    rw [List.map_take]; rfl
  rw [hlen] at hst
  simp only [Nat.add_zero] at hst
  cases hq : P.info? elem with
  | none => simp [hq] at hs
  | some i =>
    simp [Builtin.copy_, run_underlying hu, Builtin.lenOf, Builtin.firstCells, sizeOf, typeInfo, hq, hmin]
    rw [htk, hst]
    simp [Result.andThen]
theorem wpList_copy_str {P : Program} {w : World} {ops : Array Oper} {rest : List Oper} {o : Oper} {a : Act} {Q : Exit → Act → World → Prop} (hgd : o.guard = none) (d s : Operand) (dT sT : TypeId)
    (ho : o.op = .call { callee := .builtin .copy, args := #[d, s], argTypes := #[dT, sT] }) (elem : TypeId) (hu : P.underlying dT = some (.slice elem)) (hsz : (P.info? elem).map (·.size) = some 1)
    (g off dLen dCap : Nat) (t : ByteArray) (hd : a.eval d = .slice (some ⟨g, off, none⟩) dLen dCap) (hs : a.eval s = .string t)
    (cur : Array Value) (te : TypeId) (hg : w.heap[g]? = some (.cells cur te (0, 0))) (m : Nat) (hm : m = min t.size dLen) (hfit : off + m ≤ cur.size)
    (W' : World) (hW : W' = w.setRow g (cur.toList.take off ++ (t.data.toList.take m).map bval ++ cur.toList.drop (off + m)).toArray)
    (h : wpList P ops Q rest (a.put o.dst (goInt m)) W') : wpList P ops Q (o :: rest) a w := by
  subst hW
  refine wpList_plain hgd fun K hK => ?_
  have hrun := run_copy_min (P := P) w dT sT o.type elem g off dLen dCap t cur te m hm hu hsz hg hfit
  have he : (execOp a.eval o).run P w = .ok (.value (goInt m)) (w.setRow g (cur.toList.take off ++ (t.data.toList.take m).map bval ++ cur.toList.drop (off + m)).toArray) := by
    simp [execOp, ho, resolve, invoke, builtin, hd, hs, hrun, Result.andThen]
  unfold Oper.wp
  rw [he]
  exact hK _ _ h

/-- The cells of a writer. -/
def swc (q : Nat) (page : List UInt8) (size : Int) (ended : Bool) (e : Int) : List Value := .pointer (some ⟨q, 0, none⟩) :: (page.map bval ++ [.int .i64 size, .bool ended, .int .i64 e])
theorem swc_len {q : Nat} {page : List UInt8} {size : Int} {ended : Bool} {e : Int} (h : page.length = 64) : (swc q page size ended e).length = 68 := by simp [swc, h]
theorem swc_at {q : Nat} {page : List UInt8} {size : Int} {ended : Bool} {e : Int} (h : page.length = 64) :
    (swc q page size ended e)[0]? = some (.pointer (some ⟨q, 0, none⟩)) ∧ (swc q page size ended e)[65]? = some (.int .i64 size) ∧ (swc q page size ended e)[66]? = some (.bool ended) ∧ (swc q page size ended e)[67]? = some (.int .i64 e) := by
  refine ⟨rfl, ?_, ?_, ?_⟩ <;> (simp only [swc, List.getElem?_cons_succ]; rw [List.getElem?_append_right (by simp [h])]; simp [h])
theorem swc_byte {q : Nat} {page : List UInt8} {size : Int} {ended : Bool} {e : Int} {j : Nat} {u : UInt8} (hu : page[j]? = some u) : (swc q page size ended e)[1 + j]? = some (bval u) := by
  have hj := (List.getElem?_eq_some_iff.1 hu).1
  rw [Nat.add_comm]
  simp only [swc, List.getElem?_cons_succ]
  rw [List.getElem?_append_left (by simpa using hj), List.getElem?_map, hu]; rfl
theorem swc_set {q : Nat} {page : List UInt8} {size : Int} {ended : Bool} {e : Int} (h : page.length = 64) :
    (∀ v, (swc q page size ended e).toArray.setIfInBounds 65 (.int .i64 v) = (swc q page v ended e).toArray) ∧ (∀ v, (swc q page size ended e).toArray.setIfInBounds 66 (.bool v) = (swc q page size v e).toArray) ∧ (∀ v, (swc q page size ended e).toArray.setIfInBounds 67 (.int .i64 v) = (swc q page size ended v).toArray) := by
  refine ⟨fun v => ?_, fun v => ?_, fun v => ?_⟩ <;> (rw [List.setIfInBounds_toArray]; congr 1; simp only [swc, List.set_cons_succ]; rw [List.set_append_right _ _ (by simp [h])]; simp [h])
/-- Read of a slot. -/
def sreadV (s : FS) (F B : Int) (n : Int) : ByteArray × Int := if 0 ≤ n ∧ n ≤ 512 * B then preadV s F B 0 n else (⟨#[]⟩, 240)
end Go.Proofs.YtjednaendedpdaaGreat
namespace Go.Proofs.YtjednaendedpdaaGreat
set_option maxRecDepth 100000
set_option linter.unusedVariables false
open Go Go.RowKit

theorem bit1 (o c m : UInt8) : (o &&& (c ||| m)) &&& ~~~o = 0 := by
  apply UInt8.toBitVec_inj.1; apply BitVec.eq_of_getElem_eq; intro i hi
  simp only [UInt8.toBitVec_and, UInt8.toBitVec_or, UInt8.toBitVec_not, BitVec.getElem_and, BitVec.getElem_or, BitVec.getElem_not]
  cases o.toBitVec[i] <;> simp
theorem bit2 (o c m : UInt8) : (o &&& c) &&& ~~~(o &&& (c ||| m)) = 0 := by
  apply UInt8.toBitVec_inj.1; apply BitVec.eq_of_getElem_eq; intro i hi
  simp only [UInt8.toBitVec_and, UInt8.toBitVec_or, UInt8.toBitVec_not, BitVec.getElem_and, BitVec.getElem_or, BitVec.getElem_not]
  cases o.toBitVec[i] <;> cases c.toBitVec[i] <;> simp
theorem bit3 (o m : UInt8) : o &&& ~~~(o ||| m) = 0 := by
  apply UInt8.toBitVec_inj.1; apply BitVec.eq_of_getElem_eq; intro i hi
  simp only [UInt8.toBitVec_and, UInt8.toBitVec_or, UInt8.toBitVec_not, BitVec.getElem_and, BitVec.getElem_or, BitVec.getElem_not]
  cases o.toBitVec[i] <;> simp
theorem bit4 (x : UInt8) : x &&& ~~~255 = 0 := by
  have : (~~~255 : UInt8) = 0 := by decide
  rw [this]; simp
theorem bit5 (o c : UInt8) : (o &&& c) &&& ~~~o = 0 := by
  apply UInt8.toBitVec_inj.1; apply BitVec.eq_of_getElem_eq; intro i hi
  simp only [UInt8.toBitVec_and, UInt8.toBitVec_not, BitVec.getElem_and, BitVec.getElem_not]
  cases o.toBitVec[i] <;> simp
theorem bit6 (o : UInt8) : o &&& ~~~o = 0 := by
  apply UInt8.toBitVec_inj.1; apply BitVec.eq_of_getElem_eq; intro i hi
  simp only [UInt8.toBitVec_and, UInt8.toBitVec_not, BitVec.getElem_and, BitVec.getElem_not]
  cases o.toBitVec[i] <;> simp
theorem andNot_u8 (a b : UInt8) : bits .andNot .u8 (a.toNat : Int) (b.toNat : Int) = ((a &&& ~~~b).toNat : Int) := by
  rw [u8_andNot_nat _ _ a.toNat_lt b.toNat_lt, UInt8.toNat_and]
  congr 2
  have : (~~~b).toNat = 255 - b.toNat := by
    rw [← UInt8.toNat_toBitVec, UInt8.toBitVec_not, BitVec.toNat_not]; rfl
  rw [this]

/-- Behind a torn step: each byte as it was, or as it would be, but what lies between, all of one byte (of one page). -/
def Tore (er : Bool) (was now all : List UInt8) : Prop :=
  ∃ K : Nat, ∀ (i : Nat) (o n a : UInt8), was[i]? = some o → now[i]? = some n → all[i]? = some a →
    n = o ∨ n = a ∨ ((if er then i / 64 else i) = K ∧ (if er then o &&& ~~~n = 0 ∧ n &&& ~~~a = 0 else n &&& ~~~o = 0 ∧ a &&& ~~~n = 0))

theorem tore_prog (b : List UInt8) (A : Nat) (l : List UInt8) (keep k' : Int) (mask m' : UInt8) :
    Tore false b (progBytes b A l true keep mask) (progBytes b A l false k' m') := by
  refine ⟨A + keep.toNat, fun i o n a ho hn ha => ?_⟩
  rw [progBytes_at, ho, Option.map_some] at hn ha
  cases hn; cases ha
  by_cases hA : A ≤ i
  · rw [if_pos hA, if_pos hA]
    cases hl : l[i - A]? with
    | none => left; rfl
    | some c =>
      simp only [progByte, true_or, if_true]
      by_cases h1 : ((i - A : Nat) : Int) < keep
      · right; left; rw [if_pos (Or.inr h1)]
      · rw [if_neg (by simp; omega)]
        by_cases h2 : ((i - A : Nat) : Int) = keep
        · rw [if_pos h2]
          right; right
          refine ⟨by simp; omega, ?_⟩
          rw [if_neg (by decide)]
          exact ⟨bit1 o c mask, bit2 o c mask⟩
        · left; rw [if_neg h2]
  · left; rw [if_neg hA]
theorem tore_erase (b : List UInt8) (K : Nat) (keep k' : Int) (mask m' : UInt8) :
    Tore true b (eraseUpto b (512 * K) 512 true keep mask) (eraseUpto b (512 * K) 512 false k' m') := by
  refine ⟨8 * K + keep.toNat, fun i o n a ho hn ha => ?_⟩
  rw [eraseUpto_at, ho, Option.map_some] at hn ha
  cases hn; cases ha
  by_cases hA : 512 * K ≤ i ∧ i < 512 * K + 512
  · rw [if_pos hA, if_pos hA]
    simp only [eraseByte, true_or, if_true]
    by_cases h1 : (((i - 512 * K) / 64 : Nat) : Int) < keep
    · right; left; rw [if_pos (Or.inr h1)]
    · rw [if_neg (by simp; omega)]
      by_cases h2 : (((i - 512 * K) / 64 : Nat) : Int) = keep
      · rw [if_pos h2]
        right; right
        exact ⟨by show i / 64 = _; omega, bit3 o mask, bit4 _⟩
      · left; rw [if_neg h2]
  · left; rw [if_neg hA]

/-- The next step is torn. -/
def FS.armed1 (s : FS) (keep : Int) (mask : UInt8) : FS := { s with armed := 1, keep := max 0 keep, mask := mask }
theorem FS.arm_one {s : FS} (h : s.Still) (keep : Int) (mask : UInt8) : s.arm 1 keep mask = (s.armed1 keep mask, 0) := by
  unfold FS.arm
  rw [if_neg (by rw [h.dead]; decide), if_neg (by decide)]; rfl

/-- What a call does to a flash of which the next step is torn (q), and to one of which none is (r). -/
structure TornCall (er : Bool) (s0 : FS) (q r : FS × Int) : Prop where
  none : (r.2 ≠ 0 ∨ r.1.steps = 0) → q.2 = r.2 ∧ q.1.dead = false ∧ q.1.b = s0.b
  some : r.2 = 0 → r.1.steps ≠ 0 → q.2 = 2 ∧ q.1.dead = true ∧ Tore er s0.b q.1.b r.1.b
  l1 : q.1.b.length = s0.b.length
  l2 : r.1.b.length = s0.b.length

theorem torn_prog {s : FS} (h : s.Still) (hs : s.steps = 0) (keep : Int) (mask : UInt8) (at_ : Int) (l : List UInt8) :
    TornCall false s ((s.armed1 keep mask).program at_ l) (s.program at_ l) := by
  have hd : (s.armed1 keep mask).dead = false := h.dead
  have hb : (s.armed1 keep mask).b = s.b := rfl
  by_cases c1 : onB s.b.length at_ l.length = false
  · have e1 : s.program at_ l = (s, 111) := by unfold FS.program; rw [if_neg (by rw [h.dead]; decide), if_pos c1]
    have e2 : (s.armed1 keep mask).program at_ l = (s.armed1 keep mask, 111) := by unfold FS.program; rw [if_neg (by rw [hd]; decide), hb, if_pos c1]
    rw [e1, e2]
    exact ⟨fun _ => ⟨rfl, h.dead, rfl⟩, fun h0 => absurd (show (111:Int) = 0 from h0) (by decide), rfl, rfl⟩
  · by_cases c2 : l = []
    · have e1 : s.program at_ l = (s, 0) := by unfold FS.program; rw [if_neg (by rw [h.dead]; decide), if_neg c1, if_pos c2]
      have e2 : (s.armed1 keep mask).program at_ l = (s.armed1 keep mask, 0) := by unfold FS.program; rw [if_neg (by rw [hd]; decide), hb, if_neg c1, if_pos c2]
      rw [e1, e2]
      exact ⟨fun _ => ⟨rfl, h.dead, rfl⟩, fun _ h0 => absurd hs h0, rfl, rfl⟩
    · by_cases c3 : at_ / 64 ≠ (at_ + l.length - 1) / 64
      · have e1 : s.program at_ l = (s, 112) := by unfold FS.program; rw [if_neg (by rw [h.dead]; decide), if_neg c1, if_neg c2, if_pos c3]
        have e2 : (s.armed1 keep mask).program at_ l = (s.armed1 keep mask, 112) := by unfold FS.program; rw [if_neg (by rw [hd]; decide), hb, if_neg c1, if_neg c2, if_pos c3]
        rw [e1, e2]
        exact ⟨fun _ => ⟨rfl, h.dead, rfl⟩, fun h0 => absurd (show (112:Int) = 0 from h0) (by decide), rfl, rfl⟩
      · have k := h.step
        have hg : (s.armed1 keep mask).goes = true := rfl
        have ht : toldI false = 0 := by unfold toldI; rfl
        have ht2 : toldI true = 2 := by unfold toldI; rfl
        have hst : s.step.steps = 1 := by simp only [FS.step, hs]; decide +kernel
        have e1 : s.program at_ l = ({ s.step with b := progBytes s.b at_.toNat l false s.keep s.mask }, 0) := by
          unfold FS.program; rw [if_neg (by rw [h.dead]; decide), if_neg c1, if_neg c2, if_neg c3, k.2, ht]
        have e2 : (s.armed1 keep mask).program at_ l = ({ (s.armed1 keep mask).step with b := progBytes s.b at_.toNat l true (max 0 keep) mask }, 2) := by
          unfold FS.program; rw [if_neg (by rw [hd]; decide), hb, if_neg c1, if_neg c2, if_neg c3, hg, ht2]; rfl
        rw [e1, e2]
        refine ⟨fun h0 => ?_, fun _ _ => ⟨rfl, rfl, ?_⟩, ?_, ?_⟩
        · exfalso
          rcases h0 with h0 | h0
          · exact h0 rfl
          · have h0 : s.step.steps = 0 := h0
            rw [hst] at h0; cases h0
        · exact tore_prog _ _ _ _ _ _ _
        · exact progBytes_length _ _ _ _ _ _
        · exact progBytes_length _ _ _ _ _ _
theorem torn_erase {s : FS} (h : s.Still) (hs : s.steps = 0) (keep : Int) (mask : UInt8) (at_ : Int) :
    TornCall true s ((s.armed1 keep mask).erase at_) (s.erase at_) := by
  have hd : (s.armed1 keep mask).dead = false := h.dead
  have hb : (s.armed1 keep mask).b = s.b := rfl
  have hn : (s.armed1 keep mask).n = s.n := rfl
  by_cases c1 : blkB s.n.length at_ = false
  · have e1 : s.erase at_ = (s, 111) := by unfold FS.erase; rw [if_neg (by rw [h.dead]; decide), if_pos c1]
    have e2 : (s.armed1 keep mask).erase at_ = (s.armed1 keep mask, 111) := by unfold FS.erase; rw [if_neg (by rw [hd]; decide), hn, if_pos c1]
    rw [e1, e2]
    exact ⟨fun _ => ⟨rfl, h.dead, rfl⟩, fun h0 => absurd (show (111:Int) = 0 from h0) (by decide), rfl, rfl⟩
  · have k := h.step
    have hg : (s.armed1 keep mask).goes = true := rfl
    have ht : toldI false = 0 := by unfold toldI; rfl
    have ht2 : toldI true = 2 := by unfold toldI; rfl
    have hst : s.step.steps = 1 := by simp only [FS.step, hs]; decide +kernel
    have e1 : s.erase at_ = ({ s.step with n := s.bump at_.toNat, b := eraseUpto s.b (512 * at_.toNat) 512 false s.keep s.mask }, 0) := by
      unfold FS.erase; rw [if_neg (by rw [h.dead]; decide), if_neg c1, k.2, ht]
    have e2 : (s.armed1 keep mask).erase at_ = ({ (s.armed1 keep mask).step with n := (s.armed1 keep mask).bump at_.toNat, b := eraseUpto s.b (512 * at_.toNat) 512 true (max 0 keep) mask }, 2) := by
      unfold FS.erase; rw [if_neg (by rw [hd]; decide), hn, if_neg c1, hg, ht2]; rfl
    rw [e1, e2]
    refine ⟨fun h0 => ?_, fun _ _ => ⟨rfl, rfl, ?_⟩, ?_, ?_⟩
    · exfalso
      rcases h0 with h0 | h0
      · exact h0 rfl
      · have h0 : s.step.steps = 0 := h0
        rw [hst] at h0; cases h0
    · exact tore_erase _ _ _ _ _ _
    · exact eraseUpto_length _ _ _ _ _ _
    · exact eraseUpto_length _ _ _ _ _ _
/-- The same of strings. -/
structure Tear3 (er : Bool) (K : Nat) (was now all : ByteArray) : Prop where
  z1 : now.size = was.size
  z2 : all.size = was.size
  at_ : ∀ (i : Nat) (h1 : i < was.size) (h2 : i < now.size) (h3 : i < all.size), now[i] = was[i] ∨ now[i] = all[i] ∨
    ((if er then i / 64 else i) = K ∧ (if er then was[i] &&& ~~~now[i] = 0 ∧ now[i] &&& ~~~all[i] = 0 else now[i] &&& ~~~was[i] = 0 ∧ all[i] &&& ~~~now[i] = 0))
theorem tear3 {er : Bool} {a b c : List UInt8} (h : Tore er a b c) (h1 : b.length = a.length) (h2 : c.length = a.length) : ∃ K, Tear3 er K ⟨a.toArray⟩ ⟨b.toArray⟩ ⟨c.toArray⟩ := by
  obtain ⟨K, h⟩ := h
  refine ⟨K, by show b.toArray.size = a.toArray.size; simpa using h1, by show c.toArray.size = a.toArray.size; simpa using h2, fun i g1 g2 g3 => ?_⟩
  have g1 : i < a.length := by have : i < a.toArray.size := g1; simpa using this
  have g2 : i < b.length := by have : i < b.toArray.size := g2; simpa using this
  have g3 : i < c.length := by have : i < c.toArray.size := g3; simpa using this
  exact h i a[i] b[i] c[i] (List.getElem?_eq_getElem _) (List.getElem?_eq_getElem _) (List.getElem?_eq_getElem _)
end Go.Proofs.YtjednaendedpdaaGreat
namespace Go.Proofs.YtjednaendedpdaaGreat
set_option maxRecDepth 100000
set_option linter.unusedVariables false
open Go Go.RowKit

/-- Outside of [f, t) no bit is set, within none is cleared. -/
structure Bits (was now : List UInt8) (f t : Nat) : Prop where
  len : now.length = was.length
  out : ∀ (k : Nat) (o n : UInt8), was[k]? = some o → now[k]? = some n → ¬ (f ≤ k ∧ k < t) → n &&& ~~~o = 0
  in_ : ∀ (k : Nat) (o n : UInt8), was[k]? = some o → now[k]? = some n → f ≤ k ∧ k < t → o &&& ~~~n = 0
theorem Bits.same (b : List UInt8) : Bits b b 0 0 :=
  ⟨rfl, fun k o n h1 h2 _ => by rw [h1] at h2; cases h2; exact bit6 o, fun k o n _ _ h => by omega⟩
theorem Bits.prog (b : List UInt8) (A : Nat) (l : List UInt8) (g : Bool) (keep : Int) (mask : UInt8) : Bits b (progBytes b A l g keep mask) 0 0 := by
  refine ⟨progBytes_length _ _ _ _ _ _, fun k o n h1 h2 _ => ?_, fun k o n _ _ h => by omega⟩
  rw [progBytes_at, h1, Option.map_some] at h2
  cases h2
  split
  · split
    · simp only [progByte]
      split
      · exact bit5 _ _
      · split
        · exact bit1 _ _ _
        · exact bit6 _
    · exact bit6 _
  · exact bit6 _
theorem Bits.erase (b : List UInt8) (K : Nat) (g : Bool) (keep : Int) (mask : UInt8) : Bits b (eraseUpto b (512 * K) 512 g keep mask) (512 * K) (512 * K + 512) := by
  refine ⟨eraseUpto_length _ _ _ _ _ _, fun k o n h1 h2 h => ?_, fun k o n h1 h2 h => ?_⟩
  · rw [eraseUpto_at, h1, Option.map_some, if_neg h] at h2
    cases h2; exact bit6 _
  · rw [eraseUpto_at, h1, Option.map_some, if_pos h] at h2
    cases h2
    simp only [eraseByte]
    split
    · exact bit4 _
    · split
      · exact bit3 _ _
      · exact bit6 _
theorem Bits.in0 {was now : List UInt8} (K : Nat) (h : Bits was now 0 0) (he : now = was) : Bits was now (512 * K) (512 * K + 512) :=
  ⟨h.len, fun k o n h1 h2 _ => h.out k o n h1 h2 (by omega), fun k o n h1 h2 _ => by subst he; rw [h1] at h2; cases h2; exact bit6 o⟩
theorem FS.program_bits (s : FS) (at_ : Int) (l : List UInt8) : Bits s.b (s.program at_ l).1.b 0 0 := by
  unfold FS.program
  split
  · exact Bits.same _
  · split
    · exact Bits.same _
    · split
      · exact Bits.same _
      · split
        · exact Bits.same _
        · exact Bits.prog _ _ _ _ _ _
/-- Erase: either nothing was done, or it is a block's. -/
theorem FS.erase_bits (s : FS) (block : Int) :
    ((s.erase block).2 = 111 → Bits s.b (s.erase block).1.b 0 0) ∧ (¬ (0 ≤ block ∧ block < s.n.length) → Bits s.b (s.erase block).1.b 0 0) ∧
    (0 ≤ block ∧ block < s.n.length → Bits s.b (s.erase block).1.b (512 * block.toNat) (512 * block.toNat + 512)) := by
  unfold FS.erase
  by_cases hd : s.dead = true
  · rw [if_pos hd]
    exact ⟨fun _ => Bits.same _, fun _ => Bits.same _, fun _ => Bits.in0 _ (Bits.same _) rfl⟩
  · rw [if_neg hd]
    by_cases hb : blkB s.n.length block = false
    · rw [if_pos hb]
      exact ⟨fun _ => Bits.same _, fun _ => Bits.same _, fun _ => Bits.in0 _ (Bits.same _) rfl⟩
    · rw [if_neg hb]
      have hb' : 0 ≤ block ∧ block < s.n.length := by unfold blkB at hb; simpa using hb
      refine ⟨fun h => ?_, fun h => absurd hb' h, fun _ => Bits.erase _ _ _ _ _⟩
      have h : toldI s.goes = 111 := h
      unfold toldI at h
      split at h <;> cases h
theorem FS.erase_ans (s : FS) (block : Int) : (s.erase block).2 = 111 ∨ (s.erase block).2 = 2 ∨ ((s.erase block).2 = 0 ∧ 0 ≤ block ∧ block < s.n.length) := by
  unfold FS.erase
  split
  · right; left; rfl
  · split
    · left; rfl
    · rename_i hb
      have hb' : 0 ≤ block ∧ block < s.n.length := by unfold blkB at hb; simpa using hb
      show toldI _ = 111 ∨ toldI _ = 2 ∨ (toldI _ = 0 ∧ _)
      unfold toldI
      split
      · right; left; rfl
      · right; right; exact ⟨rfl, hb'⟩
theorem FS.arm_b (s : FS) (n k : Int) (m : UInt8) : (s.arm n k m).1.b = s.b := by
  unfold FS.arm
  (repeat' split) <;> rfl
/-- The same of strings. -/
theorem Bits.str {a b : List UInt8} {f t : Nat} (h : Bits a b f t) {was now : ByteArray} (h1 : was = ⟨a.toArray⟩) (h2 : now = ⟨b.toArray⟩) :
    now.size = was.size ∧ ∀ (k : Nat) (g1 : k < was.size) (g2 : k < now.size), (¬ (f ≤ k ∧ k < t) → now[k] &&& ~~~was[k] = 0) ∧ (f ≤ k ∧ k < t → was[k] &&& ~~~now[k] = 0) := by
  subst h1 h2
  refine ⟨by show b.toArray.size = a.toArray.size; simpa using h.len, fun k g1 g2 => ?_⟩
  have g1 : k < a.length := by have : k < a.toArray.size := g1; simpa using this
  have g2 : k < b.length := by have : k < b.toArray.size := g2; simpa using this
  exact ⟨h.out k a[k] b[k] (List.getElem?_eq_getElem _) (List.getElem?_eq_getElem _), h.in_ k a[k] b[k] (List.getElem?_eq_getElem _) (List.getElem?_eq_getElem _)⟩
theorem str_size {s : FS} (h : s.Ok) {x : ByteArray} (hx : x = ⟨s.b.toArray⟩) : x.size ≤ 131072 := by
  have h1 := h.len; have h2 := h.few
  rw [hx]; show s.b.toArray.size ≤ _; rw [List.size_toArray]; omega
end Go.Proofs.YtjednaendedpdaaGreat
namespace Go.Proofs.YtjednaendedpdaaGreat
set_option maxRecDepth 100000
set_option linter.unusedVariables false
open Go Go.RowKit

set_option maxHeartbeats 1000000 in
theorem ron_any (p bb cb : Nat) (s : FS) (at_ n : Int) (w : World) (h : Fl 66 w p bb cb s) (hok : s.Ok) (ba : -9223372036854775808 ≤ at_ ∧ at_ ≤ 9223372036854775807) (bn : -9223372036854775808 ≤ n ∧ n ≤ 9223372036854775807) :
    Calls Tryz.prog 89 #[.pointer (some ⟨p, 0, none⟩), .int .i64 at_, .int .i64 n] w fun e w' => e = .returned (.bool (onB s.b.length at_ n)) ∧ w = w' := by
  obtain ⟨bcap, ccap, hb, hc, c0, c1, c2, c3, c4, c5, c6⟩ := h.cells
  have hlen := hok.len
  have hfew := hok.few
  have hl : (s.b.length : Int) ≤ 131072 := by omega
  clear c1 c2 c3 c4 c5 c6 hlen hfew hc hb
  generalize s.b.length = l at c0 hl ⊢
  by_cases h0 : 0 ≤ at_
  · have h0' : decide (0 ≤ at_) = true := by simpa using h0
    by_cases h1 : 0 ≤ n
    · have h1' : decide (0 ≤ n) = true := by simpa using h1
      by_cases h2 : at_ ≤ l
      · have h2' : decide (at_ ≤ (l : Int)) = true := by simpa using h2
        have E : Box (onB l at_ n = decide (n ≤ (l : Int) - at_)) := ⟨by unfold onB; rw [decide_eq_decide]; omega⟩
        go_enter Tryz.func89, Tryz.ntmps89
        go_wp2
        go_ret
        exact ⟨by rw [E.out]; rfl, rfl⟩
      · have h2' : decide (at_ ≤ (l : Int)) = false := by simpa using h2
        have E : Box (onB l at_ n = false) := ⟨by unfold onB; rw [decide_eq_false_iff_not]; omega⟩
        go_enter Tryz.func89, Tryz.ntmps89
        go_wp2
        go_ret
        exact ⟨by rw [E.out]; rfl, rfl⟩
    · have h1' : decide (0 ≤ n) = false := by simpa using h1
      have E : Box (onB l at_ n = false) := ⟨by unfold onB; rw [decide_eq_false_iff_not]; omega⟩
      go_enter Tryz.func89, Tryz.ntmps89
      go_wp2
      go_ret
      exact ⟨by rw [E.out]; rfl, rfl⟩
  · have h0' : decide (0 ≤ at_) = false := by simpa using h0
    have E : Box (onB l at_ n = false) := ⟨by unfold onB; rw [decide_eq_false_iff_not]; omega⟩
    go_enter Tryz.func89, Tryz.ntmps89
    go_wp2
    go_ret
    exact ⟨by rw [E.out]; rfl, rfl⟩

set_option maxHeartbeats 1000000 in
theorem rread_any (p bb cb : Nat) (s : FS) (at_ n : Int) (w : World) (h : Fl 66 w p bb cb s) (hok : s.Ok) (ba : -9223372036854775808 ≤ at_ ∧ at_ ≤ 9223372036854775807) (bn : -9223372036854775808 ≤ n ∧ n ≤ 9223372036854775807) :
    Calls Tryz.prog 65 #[.pointer (some ⟨p, 0, none⟩), .int .i64 at_, .int .i64 n] w fun e w' => e = .returned (if s.dead then .tuple #[.string ⟨#[]⟩, .int .i64 2] else if onB s.b.length at_ n then .tuple #[.string ⟨((s.b.drop at_.toNat).take n.toNat).toArray⟩, .int .i64 0] else .tuple #[.string ⟨#[]⟩, .int .i64 111]) ∧ w = w' := by
  have HF := Box.mk h
  obtain ⟨bcap, ccap, hb, hc, c0, c1, c2, c3, c4, c5, c6⟩ := h.cells
  have hby := Box.mk (fun j u hu => (h.byte j u hu).1)
  clear c1 c2 c3 c4 c5 hc h
  by_cases hd : s.dead = true
  · rw [if_pos hd]
    rw [hd] at c6; clear hd
    go_enter Tryz.func65, Tryz.ntmps65
    go_wp2
    go_ret2
    exact ⟨rfl, rfl⟩
  · rw [if_neg hd]
    have hd' : s.dead = false := by simpa using hd
    rw [hd'] at c6; clear hd hd'
    by_cases ho : onB s.b.length at_ n = true
    · rw [if_pos ho]
      have hon : 0 ≤ at_ ∧ 0 ≤ n ∧ at_ + n ≤ s.b.length := by unfold onB at ho; simpa using ho
      obtain ⟨A, rfl⟩ := Int.eq_ofNat_of_zero_le hon.1
      obtain ⟨N, rfl⟩ := Int.eq_ofNat_of_zero_le hon.2.1
      have hlb : (s.b.length : Int) ≤ 131072 := by have := hok.len; have := hok.few; omega
      have hln : ((s.b.drop A).take N).length = N := by simp; omega
      have hcv := run_bytes_at Tryz.prog w bb A (bcap - A) ((s.b.drop A).take N) 22 9 5 N hln Tryz.underlying22 Tryz.underlying5 Tryz.underlying9 (fun j u hu => by
        have hj : j < N := by have := (List.getElem?_eq_some_iff.1 hu).1; rw [hln] at this; exact this
        rw [List.getElem?_take, if_pos hj, List.getElem?_drop] at hu
        exact hby.out _ _ hu)
      have HO := Box.mk ho; clear ho hln hby
      have hbI : ((s.b.length : Nat) : Int) ≤ (bcap : Int) := by omega
      have hANI : (A : Int) + (N : Int) ≤ (bcap : Int) := by omega
      go_enter Tryz.func65, Tryz.ntmps65
      go_wp2_with fail
      refine (ron_any p bb cb s A N _ HF.out hok (by omega) (by omega)).mono ?_
      rintro e w1 ⟨rfl, rfl⟩
      rw [HO.out]
      have hcv2 : bcap = A → (convert 22 9 (.slice (some ⟨bb, 0, none⟩) N 0)).run Tryz.prog w = .ok (.string ⟨((s.b.drop A).take N).toArray⟩) w := fun e => by
        have hN : N = 0 := by omega
        subst hN
        have := run_bytes_at Tryz.prog w bb 0 0 [] 22 9 5 0 rfl Tryz.underlying22 Tryz.underlying5 Tryz.underlying9 (fun j u hu => by simp at hu)
        rw [this]; simp
      by_cases hcA : bcap = A
      · have hcv2 := hcv2 hcA
        go_wp2
        go_ret2
        exact ⟨rfl, rfl⟩
      · clear hcv2
        go_wp2
        go_ret2
        exact ⟨rfl, rfl⟩
    · rw [if_neg ho]
      have ho' : onB s.b.length at_ n = false := by simpa using ho
      have HO := Box.mk ho'; clear ho ho' hby
      go_enter Tryz.func65, Tryz.ntmps65
      go_wp2_with fail
      refine (ron_any p bb cb s at_ n _ HF.out hok ba bn).mono ?_
      rintro e w1 ⟨rfl, rfl⟩
      rw [HO.out]
      go_wp2
      go_ret2
      exact ⟨rfl, rfl⟩
set_option maxHeartbeats 1000000 in
theorem goes_any (p bb cb : Nat) (s : FS) (w : World) (h : Fl 66 w p bb cb s) (hok : s.Ok) (hd : s.dead = false) :
    Calls Tryz.prog 116 #[.pointer (some ⟨p, 0, none⟩)] w fun e w' => e = .returned (.bool s.goes) ∧ Fl 66 w' p bb cb s.step ∧ Upd [p] w w' := by
  obtain ⟨bcap, ccap, hb, hc, c0, c1, c2, c3, c4, c5, c6⟩ := h.cells
  have f2 := h.free 2; have f3 := h.free 3; have f6 := h.free 6
  have hkeep := hok.armed
  have HD := Box.mk hd
  rw [hd] at c6
  by_cases ha : s.armed = 0
  · have ha' : decide (0 < s.armed) = false := by simp; omega
    have HA := Box.mk ha; clear ha hd
    clear c0 c1 c4 c5
    go_enter Tryz.func116, Tryz.ntmps116
    go_wp2
    go_ret
    refine ⟨by simp [FS.goes, HA.out], (h.set2 _).to (by cases s; have := HA.out; simp_all [FS.step]), (Upd.refl _ _).setCell (by simp) _⟩
  · have ha' : decide (0 < s.armed) = true := by simp; omega
    have HA := Box.mk ha; clear ha hd
    clear c0 c1 c4 c5
    go_enter Tryz.func116, Tryz.ntmps116
    go_wp2
    go_ret
    refine ⟨?_, (((h.set2 _).set3 _).set6 _).to (by cases s; have := HA.out; simp_all [FS.step]; rfl), (((Upd.refl _ _).setCell (by simp) _).setCell (by simp) _).setCell (by simp) _⟩
    simp only [FS.goes, if_neg HA.out]
    rfl
end Go.Proofs.YtjednaendedpdaaGreat
namespace Go.Proofs.YtjednaendedpdaaGreat
set_option maxRecDepth 100000
set_option linter.unusedVariables false
open Go Go.RowKit

set_option maxRecDepth 100000 in
set_option maxHeartbeats 2000000 in
theorem rprog_loop (p bb cb A : Nat) (s : FS) (str : ByteArray) (w : World) (h : Fl 66 w p bb cb s) (hok : s.Ok) (hd : s.dead = false) (hl : A + str.size ≤ s.b.length) (hne : str.size ≠ 0) (hp : (A : Int) % 64 + str.size ≤ 64) :
    Calls Tryz.prog 113 #[.pointer (some ⟨p, 0, none⟩), .int .i64 A, .string str] w fun e w' => e = .returned (.int .i64 (toldI s.goes)) ∧ Fl 66 w' p bb cb { s.step with b := progBytes s.b A str.data.toList s.goes s.keep s.mask } ∧ Upd [p, bb] w w' := by
  obtain ⟨bcap, ccap, hb, hc, c0, c1, c2, c3, c4, c5, c6⟩ := h.cells
  have HD := Box.mk hd
  rw [hd] at c6
  have hb2 : (s.b.length : Int) ≤ 131072 := by have := hok.len; have := hok.few; omega
  have hon : onB s.b.length (A : Int) (str.size : Int) = true := by unfold onB; rw [decide_eq_true_iff]; omega
  have hz : ((str.size : Int) == 0) = false := by rw [beq_eq_false_iff_ne]; omega
  have hpg : ¬ (64 < (A : Int) % 64 + str.size) := by omega
  have HON := Box.mk hon; clear hon hd hp
  have HF := Box.mk h
  have e1 : Box (toldI true = 2) := ⟨by unfold toldI; rfl⟩
  have e2 : Box (toldI false = 0) := ⟨by unfold toldI; rfl⟩
  clear c1 c2 c3 c4 c5 hc h
  go_enter Tryz.func113, Tryz.ntmps113
  go_wp2_with fail
  refine (ron_any p bb cb s A str.size _ HF.out hok (by omega) (by omega)).mono ?_
  rintro e w1 ⟨rfl, rfl⟩
  rw [HON.out]
  go_wp2_with fail
  refine (goes_any p bb cb s _ HF.out hok HD.out).mono ?_
  rintro e w1 ⟨rfl, hf1, hu1⟩
  have hkeep := hok.keep
  obtain ⟨bcap1, ccap1, hb1, hc1, d0, d1, d2, d3, d4, d5, d6⟩ := hf1.cells
  have HF1 := Box.mk hf1; clear hf1
  have HU1 := Box.mk hu1; clear hu1
  have HNE := Box.mk hne; clear hne
  have HL := Box.mk hl
  clear c0 c6 d0 d1 d2 d3 d4 d5 d6 hb1 hc1 hb
  generalize hG : s.goes = G
  have HG := Box.mk hG; clear hG
  go_wp2_with fail
  go_loopw [8] (fun i wr => ∃ k : Nat, k ≤ str.size ∧ i = .int .i64 k ∧ Fl 66 wr p bb cb { s.step with b := progBytes s.b A (str.data.toList.take k) G s.keep s.mask } ∧ Upd [p, bb] w wr) (fun i _ => str.size - (intOf i).toNat)
  case atStart => exact ⟨0, by omega, rfl, HF1.out.to (by rw [List.take_zero, progBytes_nil]; rfl), HU1.out.mono (by simp)⟩
  case round =>
    clear HF1 HU1
    obtain ⟨k, hk, rfl, hf, hu⟩ := hrel
    obtain ⟨bcapr, ccapr, hbr, hcr, d0, d1, d2, d3, d4, d5, d6⟩ := hf.cells
    simp only [progBytes_length] at d0 hbr
    have hkp : s.step.keep = s.keep := rfl
    have hmk : s.step.mask = s.mask := rfl
    simp only [hkp, hmk] at d4 d5
    clear hkp hmk d1 d2 d3 d6 hcr
    have HU := Box.mk hu; clear hu
    have n1 : ¬ bb = p := fun e => hf.d1 e.symm
    have n2 : ¬ p = bb := hf.d1
    by_cases hlt : k < str.size
    · have hAk : A + k < s.b.length := by omega
      obtain ⟨old, ho⟩ : ∃ old, s.b[A + k]? = some old := ⟨_, List.getElem?_eq_getElem hAk⟩
      have hc : str.data.toList[k]? = some str[k] := by rw [List.getElem?_eq_getElem (by simpa using hlt)]; rfl
      have hob : (progBytes s.b A (str.data.toList.take k) G s.keep s.mask)[A + k]? = some old := by
        rw [progBytes_get _ _ _ _ _ _ _ (by left; simp; omega)]; exact ho
      obtain ⟨e1, e2⟩ := hf.byte (A + k) old hob
      have hst := progBytes_step s.b A str.data.toList G s.keep s.mask k str[k] old hc ho
      have HST := Box.mk hst; clear hst
      have HFR := Box.mk hf; clear hf
      have hset := fun (v : UInt8) (n : Int) hn => ((HFR.out.upd (S := []) (Upd.refl _ _).drew (by simp) (by simp) (by simp)).setb (A + k) (by simp only [progBytes_length]; exact hAk) v n hn)
      have HSET := Box.mk hset; clear hset ho hob hc
      have q1 := and_u8 old str[k]; have q2 := or_u8 str[k] s.mask; have q3 := and_u8 old (str[k] ||| s.mask)
      have hcv := str[k].toNat_lt; have hov := old.toNat_lt
      have hkI : (k : Int) < (str.size : Int) := by omega
      have hAkI : (A : Int) + (k : Int) < (s.b.length : Int) := by omega
      cases G
      · have w1 : IntKind.i64.wrap ((A : Int) + (k : Int)) = (A : Int) + (k : Int) := IntWalk.i64_in _ (by omega)
        have w2 : ((A : Int) + (k : Int)).toNat = A + k := by omega
        have w3 : 0 ≤ (A : Int) + (k : Int) := by omega
        go_wp2_with fail
        go_still_tail 14, (by kernel_rfl)
        change wpList _ _ _ _ _ wr.drew
        clear w1 w2 w3
        go_wp2
        refine ⟨⟨k + 1, by omega, by go_num, (HSET.out (old &&& str[k]) _ (by rw [UInt8.toNat_and])).to ?_, HU.out.drew.setCell (by simp) _⟩, by simp [intOf]; omega⟩
        rw [← HST.out]; simp [progByte]
      · by_cases hc1 : (k : Int) < s.keep
        · have hc1' : decide ((k : Int) < s.keep) = true := by simpa using hc1
          have hc2' : ((k : Int) == s.keep) = false := by rw [beq_eq_false_iff_ne]; omega
          have HC1 := Box.mk hc1
          have w1 : IntKind.i64.wrap ((A : Int) + (k : Int)) = (A : Int) + (k : Int) := IntWalk.i64_in _ (by omega)
          have w2 : ((A : Int) + (k : Int)).toNat = A + k := by omega
          have w3 : 0 ≤ (A : Int) + (k : Int) := by omega
          go_wp2_with fail
          go_still_tail 14, (by kernel_rfl)
          change wpList _ _ _ _ _ wr.drew
          clear w1 w2 w3
          go_wp2
          refine ⟨⟨k + 1, by omega, by go_num, (HSET.out (old &&& str[k]) _ (by rw [UInt8.toNat_and])).to ?_, HU.out.drew.setCell (by simp) _⟩, by simp [intOf]; omega⟩
          rw [← HST.out]; simp [progByte, HC1.out]
        · have hc1' : decide ((k : Int) < s.keep) = false := by simpa using hc1
          have HC1 := Box.mk hc1
          by_cases hc2 : (k : Int) = s.keep
          · have hc2' : ((k : Int) == s.keep) = true := by simpa using hc2
            have HC2 := Box.mk hc2; clear hc2
            have w1 : IntKind.i64.wrap ((A : Int) + (k : Int)) = (A : Int) + (k : Int) := IntWalk.i64_in _ (by omega)
            have w2 : ((A : Int) + (k : Int)).toNat = A + k := by omega
            have w3 : 0 ≤ (A : Int) + (k : Int) := by omega
            go_wp2_with fail
            go_still_tail 19, (by kernel_rfl)
            change wpList _ _ _ _ _ wr.drew
            clear w1 w2 w3
            go_wp2
            refine ⟨⟨k + 1, by omega, by go_num, (HSET.out (old &&& (str[k] ||| s.mask)) _ (by rw [← UInt8.toNat_or, and_u8])).to ?_, HU.out.drew.setCell (by simp) _⟩, by simp [intOf]; omega⟩
            rw [← HST.out]; simp only [progByte]; rw [if_neg (by simp; omega), if_pos HC2.out]
          · have hc2' : ((k : Int) == s.keep) = false := by rw [beq_eq_false_iff_ne]; exact hc2
            have HC2 : Box (s.keep < (k : Int)) := ⟨by omega⟩
            clear hc2
            go_wp2
            refine ⟨⟨k + 1, by omega, by go_num, HFR.out.to ?_, HU.out⟩, by simp [intOf]; omega⟩
            rw [progBytes_rest _ _ _ _ _ _ HC2.out, progBytes_rest _ _ _ _ _ _ (by have := HC2.out; omega : s.keep < ((k + 1 : Nat) : Int))]
    · have hk2 : k = str.size := by omega
      subst hk2
      have HFR := Box.mk hf; clear hf
      cases G
      all_goals
        go_wp2
        go_ret
        refine ⟨?_, HFR.out.to ?_, HU.out⟩
        · rw [HG.out]; first | (rw [e1.out]; rfl) | (rw [e2.out]; rfl)
        · rw [HG.out, List.take_of_length_le (by simp)]

set_option maxRecDepth 100000 in
set_option maxHeartbeats 2000000 in
/-- The document's Program. -/
theorem rprogram_any (p bb cb : Nat) (s : FS) (at_ : Int) (str : ByteArray) (w : World) (h : Fl 66 w p bb cb s) (hok : s.Ok) (ba : -9223372036854775808 ≤ at_ ∧ at_ ≤ 9223372036854775807) (hs : str.size ≤ 9223372036854775807) :
    Calls Tryz.prog 113 #[.pointer (some ⟨p, 0, none⟩), .int .i64 at_, .string str] w fun e w' => e = .returned (.int .i64 (s.program at_ str.data.toList).2) ∧ Fl 66 w' p bb cb (s.program at_ str.data.toList).1 ∧ Upd [p, bb] w w' := by
  have hlen : str.data.toList.length = str.size := by simp
  have HF := Box.mk h
  obtain ⟨bcap, ccap, hb, hc, c0, c1, c2, c3, c4, c5, c6⟩ := h.cells
  clear c0 c1 c2 c3 c4 c5 hb hc h
  by_cases hd : s.dead = true
  · have E : Box (s.program at_ str.data.toList = (s, 2)) := ⟨by unfold FS.program; rw [if_pos hd]⟩
    rw [hd] at c6; clear hd
    rw [E.out]
    go_enter Tryz.func113, Tryz.ntmps113
    go_wp2
    go_ret
    exact ⟨rfl, HF.out, Upd.refl _ _⟩
  · by_cases ho : onB s.b.length at_ str.size = true
    · by_cases hn : str.size = 0
      · have E : Box (s.program at_ str.data.toList = (s, 0)) := ⟨by
          unfold FS.program; rw [if_neg hd, hlen, if_neg (by rw [ho]; simp), if_pos (List.eq_nil_of_length_eq_zero (by rw [hlen, hn]))]⟩
        rw [E.out]
        have hd' : s.dead = false := by simpa using hd
        rw [hd'] at c6; clear hd hd'
        have hz : ((str.size : Int) == 0) = true := by rw [beq_iff_eq]; omega
        have HO := Box.mk ho; clear ho hlen hn
        go_enter Tryz.func113, Tryz.ntmps113
        go_wp2_with fail
        refine (ron_any p bb cb s at_ str.size _ HF.out hok ba (by omega)).mono ?_
        rintro e w1 ⟨rfl, rfl⟩
        rw [HO.out]
        go_wp2
        go_ret
        exact ⟨rfl, HF.out, Upd.refl _ _⟩
      · have hon : 0 ≤ at_ ∧ 0 ≤ (str.size : Int) ∧ at_ + str.size ≤ s.b.length := by unfold onB at ho; simpa using ho
        by_cases hp : at_ / 64 = (at_ + str.size - 1) / 64
        · obtain ⟨A, rfl⟩ := Int.eq_ofNat_of_zero_le hon.1
          have E : Box (s.program A str.data.toList = ({ s.step with b := progBytes s.b A str.data.toList s.goes s.keep s.mask }, toldI s.goes)) := ⟨by
            unfold FS.program; rw [if_neg hd, hlen, if_neg (by rw [ho]; simp), if_neg (fun e => hn (by rw [← hlen, e]; rfl)), if_neg (by simpa using hp)]; rfl⟩
          rw [E.out]
          exact rprog_loop p bb cb A s str w HF.out hok (by simpa using hd) (by omega) hn (by omega)
        · have E : Box (s.program at_ str.data.toList = (s, 112)) := ⟨by
            unfold FS.program; rw [if_neg hd, hlen, if_neg (by rw [ho]; simp), if_neg (fun e => hn (by rw [← hlen, e]; rfl)), if_pos hp]⟩
          rw [E.out]
          have hd' : s.dead = false := by simpa using hd
          rw [hd'] at c6; clear hd hd'
          have hlb : (s.b.length : Int) ≤ 131072 := by have := hok.len; have := hok.few; omega
          have hz : ((str.size : Int) == 0) = false := by rw [beq_eq_false_iff_ne]; omega
          have hpg : 64 < at_ % 64 + (str.size : Int) := by omega
          have h0 := hon.1
          have h1 : (str.size : Int) ≤ 131072 := by omega
          have HO := Box.mk ho
          clear ho hlen hn hp hon
          go_enter Tryz.func113, Tryz.ntmps113
          go_wp2_with fail
          refine (ron_any p bb cb s at_ str.size _ HF.out hok ba (by omega)).mono ?_
          rintro e w1 ⟨rfl, rfl⟩
          rw [HO.out]
          go_wp2
          go_ret
          exact ⟨rfl, HF.out, Upd.refl _ _⟩
    · have ho' : onB s.b.length at_ str.size = false := by simpa using ho
      have E : Box (s.program at_ str.data.toList = (s, 111)) := ⟨by unfold FS.program; rw [if_neg hd, hlen, if_pos ho']⟩
      rw [E.out]
      have hd' : s.dead = false := by simpa using hd
      rw [hd'] at c6; clear hd hd'
      have HO := Box.mk ho'; clear ho ho' hlen
      go_enter Tryz.func113, Tryz.ntmps113
      go_wp2_with fail
      refine (ron_any p bb cb s at_ str.size _ HF.out hok ba (by omega)).mono ?_
      rintro e w1 ⟨rfl, rfl⟩
      rw [HO.out]
      go_wp2
      go_ret
      exact ⟨rfl, HF.out, Upd.refl _ _⟩
end Go.Proofs.YtjednaendedpdaaGreat
