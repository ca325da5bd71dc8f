/- Images in slots: Write, End. SHA-2 on plain numbers: words, blocks, sums; a sum that goes on. SHA-2: a word turned; mixed. Rows of the call's own: made, appended to where there is room, as worlds that are known. -/
import Derived.Test.YtopiopomioglfaaM04
import Derived.Test.YtopiopomioglfaaRows
import Derived.Test.YtopiopomioglfaaM01
import Derived.Laws.BitsAllLaws
import Derived.ArgAppend
import Derived.Laws.MakeOwn
import Derived.Laws.IdiomCopy
import Derived.Deep.Upon
import Derived.OwnWalk
namespace Go.Proofs.Ytopiopomioglfaa
set_option maxRecDepth 100000
set_option linter.unusedVariables false
open Go Go.RowKit

/-- A writer in a state. -/
structure Sw (w : World) (g q : Nat) (ws : WS) (page : List UInt8) : Prop where
  at_ : Swr w g q page ws.came ws.ended ws.e
  pg : ws.e = 0 → ws.ended = false → page.take (ws.all.length - ws.made) = ws.all.drop ws.made
theorem Sw.upd {w w' : World} {g q : Nat} {ws : WS} {page : List UInt8} {S : List Nat} (h : Sw w g q ws page) (hu : Upd S w w') (hn : g ∉ S) : Sw w' g q ws page := ⟨h.at_.upd hu hn, h.pg⟩

/-- Where the blocks of a writer lie. -/
structure Spl (g q p bb cb : Nat) : Prop where
  hg : g ∉ [p, bb, cb]
  hq : q ∉ [p, bb, cb]
  hn : q ≠ g
theorem Spl.p {g q p bb cb : Nat} (h : Spl g q p bb cb) : p ∉ [g] ∧ bb ∉ [g] ∧ cb ∉ [g] ∧ q ∉ [g, p, bb, cb] := by
  obtain ⟨h1, h2, h3⟩ := h
  simp only [List.mem_cons, List.not_mem_nil, or_false, not_or] at h1 h2 ⊢
  exact ⟨fun e => h1.1 e.symm, fun e => h1.2.1 e.symm, fun e => h1.2.2 e.symm, h3, h2.1, h2.2.1, h2.2.2⟩
theorem upd_g {S : List Nat} {a b : World} {g p bb cb : Nat} (h : Upd S a b) (hs : ∀ k, k ∈ S → k ∈ [g, p, bb, cb]) : Upd [g, p, bb, cb] a b := h.mono hs
theorem drop_take_page (A : List UInt8) (z o : Nat) (ho : o = z % 64) (hz : z ≤ A.length) : ((A.take z).drop (64 * (z / 64))).length = o := by
  rw [List.length_drop, List.length_take]; omega
/-- Bytes that came behind others, in a page. -/
theorem page_more {page A : List UInt8} {m o n : Nat} (hp : page.length = 64) (h : page.take o = (A.drop m).take o) (ho : o + n ≤ 64) (hA : m + o + n ≤ A.length) :
    (page.take o ++ (A.drop (m + o)).take n ++ page.drop (o + n)).take (o + n) = (A.drop m).take (o + n) := by
  have hl : ((A.drop (m + o)).take n).length = n := by rw [List.length_take, List.length_drop]; omega
  have hl2 : (page.take o).length = o := by rw [List.length_take]; omega
  rw [List.take_append_of_le_length (by rw [List.length_append, hl, hl2]; exact Nat.le_refl _), List.take_of_length_le (by rw [List.length_append, hl, hl2]; exact Nat.le_refl _), h]
  rw [List.take_add, List.drop_drop]

set_option maxHeartbeats 8000000 in
theorem swrite_any (g q p bb cb : Nat) (F B : Int) (s : FS) (ws : WS) (page : List UInt8) (str : ByteArray) (w : World) (hf : Fl 76 w p bb cb s) (hok : s.Ok) (h : Pa w q p F B) (hi : In s.n.length F B) (hw : Sw w g q ws page) (hws : ws.Ok B)
    (hp : Spl g q p bb cb) (hs : str.size ≤ 9223372036854775807) :
    Calls Try.prog 10 #[.pointer (some ⟨g, 0, none⟩), .string str] w fun e w' => e = .returned (.int .i64 (ws.write F B s str.data.toList).2.2) ∧ Fl 76 w' p bb cb (ws.write F B s str.data.toList).1 ∧ (∃ pg, Sw w' g q (ws.write F B s str.data.toList).2.1 pg) ∧ Upd [g, p, bb, cb] w w' := by
  obtain ⟨c0, c1, c2, c3⟩ := hw.at_.cells
  have f67 := hw.at_.free 67; have f65 := hw.at_.free 65
  have hlen : str.data.toList.length = str.size := by simp
  obtain ⟨V, hV⟩ : ∃ V, V = ws.write F B s str.data.toList := ⟨_, rfl⟩
  have HV := hV
  unfold WS.write at HV
  rw [← hV]
  clear hV
  have HF := Box.mk hf; have HW := Box.mk hw; have SP := Box.mk hp
  by_cases he : ws.e = 0
  · rw [if_neg (by simpa using he)] at HV
    have heb : (ws.e != 0) = false := by simpa using he
    by_cases hn : ws.ended = true
    · rw [if_pos hn] at HV
      have HX := Box.mk HV
      rw [hn] at c2
      clear HV he hn hf hok h hi hw hws hp hlen c0 c1 f67 f65
      obtain ⟨rfl⟩ := HX
      go_enter Try.func10, Try.ntmps10
      go_wp2
      go_ret
      exact ⟨rfl, HF.out, ⟨page, HW.out⟩, Upd.refl _ _⟩
    · have hn : ws.ended = false := by simpa using hn
      rw [if_neg (by rw [hn]; decide)] at HV
      obtain ⟨hr1, hr2⟩ := hws.run he
      have hr2 := hr2 hn
      have hcm := hws.came; have hal := hws.all
      have h1 := hi.lo; have h2 := hi.some; have h3 := hi.hi; have h4 := hi.few
      have SZ := Box.mk (fun n => size_any q p F B _ (w.drewN n) (h.upd ((Upd.refl [] w).drewN n) (by simp)) hi)
      obtain ⟨came, hca⟩ : ∃ c, c = ws.came := ⟨_, rfl⟩
      rw [hn] at c2
      rw [← hca] at c1 hr1 hcm
      have hwr : IntKind.i64.wrap (512 * B - (came : Int)) = 512 * B - (came : Int) := by rw [IntKind.wrap_i64]; omega
      rw [hlen] at HV
      by_cases hfull : 512 * B < ((ws.all.length + str.size : Nat) : Int)
      · rw [if_pos hfull] at HV
        have hd : decide (512 * B - (came : Int) < (str.size : Int)) = true := by rw [decide_eq_true_eq]; omega
        have HX := Box.mk HV
        have E1 := Box.mk hn; have E2 := Box.mk hca
        clear HV he hn hf hok h hi hw hws hp hlen hfull h1 h2 h3 h4 hr1 hr2 hcm hal hca f65
        obtain ⟨rfl⟩ := HX
        go_enter Try.func10, Try.ntmps10
        go_wp2_with fail
        go_quiet ((go_at_call 9; exact quiet_calls (SZ.out _)))
        go_wp2_with fail
        go_ret
        exact ⟨rfl, HF.out.upd (((Upd.refl [g] w).drewN _).setCell (by simp) _) (SP.out.p.1) (SP.out.p.2.1) (SP.out.p.2.2.1), ⟨page, (HW.out.at_.upd ((Upd.refl [] w).drewN _) (by simp)).set67 241, fun h => by simp at h⟩, ((Upd.refl [g, p, bb, cb] w).drewN _).setCell (by simp) _⟩
      · rw [if_neg hfull] at HV
        have hd : decide (512 * B - (came : Int) < (str.size : Int)) = false := by rw [decide_eq_false_iff_not]; omega
        have HB := Box.mk hws; have F0 := Box.mk hf
        obtain ⟨A, hA⟩ : ∃ A, A = ws.all ++ str.data.toList := ⟨_, rfl⟩
        rw [← hA] at HV
        have hAl : A.length = came + str.size := by rw [hA, List.length_append, hlen, hr1]
        obtain ⟨R, hR⟩ : ∃ R, R = FS.wto F B A (A.length / 64 - ws.made / 64) s ws.made := ⟨_, rfl⟩
        rw [← hR] at HV
        have hdrop : str.data.toList = A.drop came := by rw [hA, List.drop_append_of_le_length (by omega), List.drop_eq_nil_of_le (by omega), List.nil_append]
        have hall : ws.all.drop ws.made = (A.drop (64 * (came / 64))).take (came % 64) := by
          have hr3 : ws.made = 64 * (came / 64) := by rw [hr2, hr1]
          rw [hA, hr3, List.drop_append_of_le_length (by omega), List.take_append_of_le_length (by rw [List.length_drop]; omega), List.take_of_length_le (by rw [List.length_drop]; omega)]
        have hpage := hw.pg he hn
        rw [hall, show ws.all.length - ws.made = came % 64 by omega] at hpage
        have ST0 : Box (Swr w g q page came false 0 ∧ Pa w q p F B) := ⟨by have := hw.at_; rw [hn, he, ← hca] at this; exact this, h⟩
        have R0 : Box (FS.wto F B A (A.length / 64 - came / 64) s (64 * (came / 64)) = R) := ⟨by rw [hR, hr2, hr1]; congr 2; omega⟩
        have PG0 := Box.mk hpage; have OK0 := Box.mk hok; have HIN := Box.mk hi; have HDR := Box.mk hdrop; have HAL := Box.mk hAl; have HVV := Box.mk HV; have BD : Box (0 ≤ F ∧ 1 ≤ B ∧ F + B ≤ 256 ∧ (A.length : Int) ≤ 512 * B) := ⟨by omega⟩
        have hAbd : (A.length : Int) ≤ 131072 := by omega
        have HCA := Box.mk hca
        have HNC : Box (ws.e = 0 ∧ ws.ended = false) := ⟨he, hn⟩
        clear HV hR hA hdrop hall hpage he hn hf hok h hi hw hws hp hlen hfull h1 h2 h3 h4 hr1 hr2 hcm hal hca c3 f65 f67 HF HW heb
        have e0 : (0 : Int) = 0 := rfl
        obtain ⟨d0, d1, d2, d3⟩ := ST0.out.1.cells
        clear c0 c1 c2 e0
        go_enter Try.func10, Try.ntmps10
        go_upto_region 5 with (fail)
        go_quiet ((go_at_call 9; exact quiet_calls (SZ.out _)))
        go_wp2_with fail
        have HF1 := Box.mk (F0.out.upd ((Upd.refl [] w).drewN nq) (by simp) (by simp) (by simp)); have SW1 := Box.mk (ST0.out.1.upd ((Upd.refl [] w).drewN nq) (by simp)); have PA1 := Box.mk (ST0.out.2.upd ((Upd.refl [] w).drewN nq) (by simp)); have U1 := Box.mk ((Upd.refl [g, p, bb, cb] w).drewN nq)
        clear SZ ST0 d0 d1 d2 d3 hwr hd
        generalize w.drewN nq = w1 at HF1 SW1 PA1 U1 ⊢
        go_loopw [1, 5] (fun x y wr => ∃ (t : ByteArray) (z : Nat) (pg : List UInt8) (s' : FS), x = .string t ∧ y = .int .i64 z ∧ z + t.size = A.length ∧ t.data.toList = A.drop z ∧ pg.take (z % 64) = (A.drop (64 * (z / 64))).take (z % 64) ∧ FS.wto F B A (A.length / 64 - z / 64) s' (64 * (z / 64)) = R ∧ s'.Ok ∧ s'.n.length = s.n.length ∧ Fl 76 wr p bb cb s' ∧ Swr wr g q pg came false 0 ∧ Pa wr q p F B ∧ Upd [g, p, bb, cb] w wr) (fun x _ _ => match x with | .string t => t.size | _ => 0)
        case atStart => exact ⟨str, came, page, s, rfl, rfl, HAL.out.symm, HDR.out, PG0.out, R0.out, OK0.out, rfl, HF1.out, SW1.out, PA1.out, U1.out⟩
        case round =>
          clear HF1 SW1 PA1 U1 R0 PG0 OK0
          obtain ⟨t, z, pg, s', rfl, rfl, hzt, htl, hpg, hR, ok, nn, f1, sw, pa, u1⟩ := hrel
          have F1 := Box.mk f1; have SW1 := Box.mk sw; have PA1 := Box.mk pa; have U1 := Box.mk u1; have OK1 := Box.mk ok; have N1 := Box.mk nn; have HR := Box.mk hR; have HPG := Box.mk hpg; have HTL := Box.mk htl
          obtain ⟨d0, d1, d2, d3⟩ := sw.cells
          have g65 := sw.free 65; have g67 := sw.free 67
          clear f1 pa u1 ok nn hR hpg htl
          by_cases ht : t.size = 0
          · have hte : t.toList.isEmpty = true := by
              rw [ByteArray.toList_eq, List.isEmpty_iff_length_eq_zero]; simpa using ht
            have hz : z = A.length := by omega
            have HRR : Box (R = (s', 0, 64 * (A.length / 64))) := ⟨by have := HR.out; rw [hz, Nat.sub_self] at this; rw [← this]; rfl⟩
            have HPG2 := HPG.out
            rw [hz, List.take_of_length_le (l := A.drop _) (by rw [List.length_drop]; omega)] at HPG2
            have HPG3 := Box.mk HPG2
            have HZ := Box.mk hz
            clear ht hz sw HPG2 d0 d2 d3 g67
            go_wp2_with fail
            go_ret
            have hv := HVV.out
            rw [HRR.out] at hv
            dsimp only at hv
            rw [if_pos rfl] at hv
            rw [hv]
            have hpp := SP.out.p
            refine ⟨rfl, F1.out.upd ((Upd.refl [g] wr).setCell (by simp) _) hpp.1 hpp.2.1 hpp.2.2.1, ⟨pg, ?_, ?_⟩, U1.out.setCell (by simp) _⟩
            · have := SW1.out.set65 (A.length : Nat)
              rw [HNC.out.2]
              rw [HZ.out]
              exact this
            · intro _ _
              dsimp only
              rw [show A.length - 64 * (A.length / 64) = A.length % 64 by omega]
              exact HPG3.out
          · have hte : t.toList.isEmpty = false := by
              rw [ByteArray.toList_eq, Bool.eq_false_iff, ne_eq, List.isEmpty_iff_length_eq_zero]; simpa using ht
            obtain ⟨o, ho⟩ : ∃ o, o = z % 64 := ⟨_, rfl⟩
            obtain ⟨m, hm⟩ : ∃ m, m = min t.size (64 - o) := ⟨_, rfl⟩
            have hzo : ((z : Int) % 64) = (o : Int) := by omega
            have hot : (o : Int) ≤ 64 := by omega
            have HO := Box.mk ho; have HM := Box.mk hm; have HT := Box.mk ht; have HZT := Box.mk hzt
            clear ho hm ht hzt
            have hmb : 1 ≤ m ∧ m ≤ t.size ∧ o + m ≤ 64 ∧ o < 64 := by have := HM.out; have := HT.out; have := HO.out; omega
            have hml : ((A.drop z).take m).length = m := by rw [List.length_take, List.length_drop]; have := HZT.out; omega
            obtain ⟨pg', hpg'⟩ : ∃ x, x = pg.take o ++ (A.drop z).take m ++ pg.drop (o + m) := ⟨_, rfl⟩
            obtain ⟨W1, hW1⟩ : ∃ W, W = wr.setRow g ((swc q pg came false 0).toArray.toList.take (1 + o) ++ (t.data.toList.take m).map bval ++ (swc q pg came false 0).toArray.toList.drop (1 + o + m)).toArray := ⟨_, rfl⟩
            have SW2 := Box.mk (show Swr W1 g q pg' came false 0 from by
              rw [hW1, hpg', HTL.out]
              have := SW1.out.copied o ((A.drop z).take m) (by rw [hml]; omega)
              rw [hml] at this; exact this)
            have UW := Box.mk (show Upd [g] wr W1 from by rw [hW1]; exact ((GrS.refl [g] wr).setRow (.inr (by simp)) _).upd)
            have HFIT := Box.mk (show 1 + o + m ≤ (swc q pg came false 0).toArray.size from by rw [List.size_toArray, swc_len sw.len]; omega)
            have HINF := Box.mk (show (Try.prog.info? 5).map (·.size) = some 1 from by kernel_rfl)
            have HPG2 := Box.mk (show pg'.take (o + m) = (A.drop (64 * (z / 64))).take (o + m) from by
              have hz2 : 64 * (z / 64) + o = z := by have := HO.out; omega
              have := page_more (page := pg) (A := A) (m := 64 * (z / 64)) (o := o) (n := m) sw.len (by have := HPG.out; rw [← HO.out] at this; exact this) hmb.2.2.1 (by have := HZT.out; omega)
              rw [hz2] at this
              rw [hpg']; exact this)
            obtain ⟨y, hy⟩ : ∃ y, y = z + m := ⟨_, rfl⟩
            have hwy : IntKind.i64.wrap ((z : Int) + (m : Int)) = (y : Int) := by rw [IntKind.wrap_i64]; have := HZT.out; omega
            have hmI : (m : Int) ≤ (t.size : Int) := by omega
            have HMB := Box.mk hmb; have HY := Box.mk hy
            have HW1 := Box.mk hW1
            clear hW1 hpg' hml hmb hy d1 d2 d3 g65 g67 sw
            go_upto_region 11 with ((with_reducible refine wpList_copy_str rfl (.tmp 54) (.tmp 55) 54 9 rfl 5 Try.underlying54 HINF.out g (1 + o) (64 - o) (64 - o) t rfl rfl _ 71 SW1.out.row m HM.out HFIT.out W1 HW1.out ?_))
            clear HW1 HFIT HINF
            go_quiet (fail)
            have SW3 := Box.mk (SW2.out.upd ((Upd.refl [] W1).drewN nq) (by simp)); have hpp := SP.out.p
            have F3 := Box.mk ((F1.out.upd UW.out hpp.1 hpp.2.1 hpp.2.2.1).upd ((Upd.refl [] W1).drewN nq) (by simp) (by simp) (by simp)); have PA3 := Box.mk ((PA1.out.upd UW.out (by simp; exact SP.out.hn)).upd ((Upd.refl [] W1).drewN nq) (by simp)); have U3 := Box.mk ((U1.out.trans (UW.out.mono (T := [g, p, bb, cb]) (by simp))).trans ((Upd.refl _ W1).drewN nq))
            have HVL : Box ((t.extract m t.size).data.toList = A.drop y ∧ y + (t.extract m t.size).size = A.length ∧ (t.extract m t.size).size < t.size) := ⟨by
              have hy := HY.out; have hmb := HMB.out; have hzt := HZT.out
              have hll : t.data.toList.length = t.size := by simp
              refine ⟨?_, by rw [ByteArray.size_extract]; omega, by rw [ByteArray.size_extract]; omega⟩
              rw [ByteArray.data_extract, Array.toList_extract, List.extract_eq_take_drop, List.take_of_length_le (by rw [List.length_drop, hll]; exact Nat.le_refl _), HTL.out, List.drop_drop, hy]⟩
            clear SW1 F1 PA1 U1 UW SW2 hpp d0 hwy hmI HTL
            generalize W1.drewN nq = w3 at SW3 F3 PA3 U3 ⊢
            by_cases hc : o + m = 64
            · have hgt : decide (0 < (y : Int) % 64) = false := by rw [decide_eq_false_iff_not]; have := HY.out; have := HO.out; omega
              have hy64 : y = 64 * (z / 64) + 64 := by have := HY.out; have := HO.out; omega
              obtain ⟨M, hM⟩ : ∃ M, M = 64 * (z / 64) := ⟨_, rfl⟩
              obtain ⟨k, hk⟩ : ∃ k, A.length / 64 - z / 64 = k + 1 := ⟨A.length / 64 - z / 64 - 1, by have := HZT.out; have := HY.out; have := HMB.out; omega⟩
              have hR := HR.out
              rw [hk, ← hM, FS.wto] at hR
              have hl64 : ((A.drop M).take 64).length = 64 := by rw [List.length_take, List.length_drop]; have := HZT.out; have := HY.out; have := HMB.out; omega
              have WR := Box.mk (writes_any g q p bb cb F B s' pg' came false 0 M y ((A.drop M).take 64) w3 F3.out OK1.out PA3.out (by rw [N1.out]; exact HIN.out) SW3.out SP.out.hg SP.out.hq (by rw [hl64]; omega) (by omega) (by omega) (by omega) (by have := HZT.out; have := HY.out; have := HMB.out; omega) (by rw [hl64]; have := HPG2.out; rw [hc, ← hM] at this; exact this))
              have OK4 := Box.mk (FS.wpage_ok OK1.out F B M ((A.drop M).take 64))
              generalize s'.wpage F B M ((A.drop M).take 64) = r at hR WR OK4
              obtain ⟨r1, r2⟩ := r
              dsimp only at hR WR OK4
              have HR4 := Box.mk hR; have HM4 := Box.mk hM; have HK4 := Box.mk hk; have HY4 := Box.mk hy64
              clear hR hM hk hy64 hl64 hc HR
              go_wp2_with fail
              refine WR.out.mono ?_
              rintro e w4 ⟨rfl, f4, u4⟩
              have F4 := Box.mk f4; have SW4 := Box.mk (SW3.out.upd u4 SP.out.hg); have PA4 := Box.mk (PA3.out.upd u4 SP.out.hq); have U4 := Box.mk (U3.out.trans (u4.mono (T := [g, p, bb, cb]) (by simp)))
              obtain ⟨d0, d1, d2, d3⟩ := SW4.out.cells
              have g67 := SW4.out.free 67
              clear f4 u4 d0 d1 d2 WR F3 PA3 U3 SW3
              by_cases hr : r2 = 0
              · have hrb : (r2 != 0) = false := by simpa using hr
                have HR5 : Box (FS.wto F B A k r1 (M + 64) = R) := ⟨by have := HR4.out; rwa [if_neg (by simpa using hr)] at this⟩
                have HRR := Box.mk hr
                clear hr HR4
                go_wp2_with fail
                have hpp := SP.out.p
                refine ⟨⟨t.extract m t.size, y, pg', r1, rfl, rfl, HVL.out.2.1, HVL.out.1, ?_, ?_, OK4.out.1, OK4.out.2.trans N1.out, F4.out.upd ((Upd.refl [g] w4).setCell (by simp) _) hpp.1 hpp.2.1 hpp.2.2.1, ?_, PA4.out.upd ((Upd.refl [g] w4).setCell (by simp) _) (by simp; exact SP.out.hn), U4.out.setCell (by simp) _⟩, HVL.out.2.2⟩
                · rw [show y % 64 = 0 by have := HY4.out; omega]; simp
                · have h1 := HR5.out
                  rw [show A.length / 64 - y / 64 = k by have := HY4.out; have := HK4.out; omega, show 64 * (y / 64) = M + 64 by have := HY4.out; have := HM4.out; omega]
                  exact h1
                · have := SW4.out.set67 r2
                  rw [HRR.out] at this ⊢
                  exact this
              · have hrb : (r2 != 0) = true := by rw [bne_iff_ne]; exact hr
                have HR5 : Box (R = (r1, r2, M)) := ⟨by have := HR4.out; rw [if_pos hr] at this; exact this.symm⟩
                have HRR := Box.mk hr
                clear hr HR4
                go_wp2_with fail
                go_ret
                have hv := HVV.out
                rw [HR5.out] at hv
                dsimp only at hv
                rw [if_neg HRR.out] at hv
                rw [hv]
                have hpp := SP.out.p
                refine ⟨rfl, F4.out.upd ((Upd.refl [g] w4).setCell (by simp) _) hpp.1 hpp.2.1 hpp.2.2.1, ⟨pg', ?_, fun h => absurd h HRR.out⟩, U4.out.setCell (by simp) _⟩
                have := SW4.out.set67 r2
                rw [HNC.out.2, ← HCA.out]
                exact this
            · have hgt : decide (0 < (y : Int) % 64) = true := by rw [decide_eq_true_eq]; have := HY.out; have := HO.out; have := HMB.out; omega
              have HC := Box.mk hc
              clear hc
              go_wp2_with fail
              have hy1 : y / 64 = z / 64 ∧ y % 64 = o + m := by have := HY.out; have := HO.out; have := HMB.out; have := HC.out; omega
              refine ⟨⟨t.extract m t.size, y, pg', s', rfl, rfl, HVL.out.2.1, HVL.out.1, ?_, ?_, OK1.out, N1.out, F3.out, SW3.out, PA3.out, U3.out⟩, HVL.out.2.2⟩
              · rw [hy1.2, hy1.1]; exact HPG2.out
              · rw [hy1.1]; exact HR.out
  · rw [if_pos he] at HV
    have heb : (ws.e != 0) = true := by rw [bne_iff_ne]; exact he
    have HX := Box.mk HV
    clear HV he hf hok h hi hw hws hp hlen c0 c1 c2 f67 f65
    obtain ⟨rfl⟩ := HX
    go_enter Try.func10, Try.ntmps10
    go_wp2
    go_ret
    exact ⟨rfl, HF.out, ⟨page, HW.out⟩, Upd.refl _ _⟩
end Go.Proofs.Ytopiopomioglfaa
namespace Go.Proofs.Ytopiopomioglfaa.Sha
set_option maxRecDepth 100000
set_option linter.unusedVariables false

/-- A word of W bits turned to the right. -/
def rotr (W x n : Nat) : Nat := x / 2 ^ n ||| x * 2 ^ (W - n) % 2 ^ W
/-- Three numbers of bits. -/
structure T3 where
  a : Nat
  b : Nat
  c : Nat
structure Sh where
  a : T3
  b : T3
  c : T3
  d : T3
def big (W x : Nat) (n : T3) : Nat := rotr W x n.a ^^^ rotr W x n.b ^^^ rotr W x n.c
def sml (W x : Nat) (n : T3) : Nat := rotr W x n.a ^^^ rotr W x n.b ^^^ x / 2 ^ n.c
def nextW (W : Nat) (s : Sh) (l : List Nat) : Nat :=
  (sml W (l.getD (l.length - 2) 0) s.d + l.getD (l.length - 7) 0 + sml W (l.getD (l.length - 15) 0) s.c + l.getD (l.length - 16) 0) % 2 ^ W
/-- n words more. -/
def sched (W : Nat) (s : Sh) : Nat → List Nat → List Nat
  | 0, l => l
  | n + 1, l => sched W s n (l ++ [nextW W s l])
/-- Eight words. -/
structure V8 where
  a : Nat
  b : Nat
  c : Nat
  d : Nat
  e : Nat
  f : Nat
  g : Nat
  h : Nat
def V8.list (v : V8) : List Nat := [v.a, v.b, v.c, v.d, v.e, v.f, v.g, v.h]
def one (W : Nat) (s : Sh) (v : V8) (k x : Nat) : Nat := (v.h + big W v.e s.b + ((v.e &&& v.f) ^^^ ((2 ^ W - 1 - v.e) &&& v.g)) + k + x) % 2 ^ W
def two (W : Nat) (s : Sh) (v : V8) : Nat := (big W v.a s.a + ((v.a &&& v.b) ^^^ (v.a &&& v.c) ^^^ (v.b &&& v.c))) % 2 ^ W
def round (W : Nat) (s : Sh) (v : V8) (k x : Nat) : V8 :=
  ⟨(one W s v k x + two W s v) % 2 ^ W, v.a, v.b, v.c, (v.d + one W s v k x) % 2 ^ W, v.e, v.f, v.g⟩
def rnds (W : Nat) (s : Sh) : List Nat → List Nat → V8 → V8
  | k :: ks, x :: xs, v => rnds W s ks xs (round W s v k x)
  | _, _, v => v
def plus (W : Nat) (v u : V8) : V8 :=
  ⟨(v.a + u.a) % 2 ^ W, (v.b + u.b) % 2 ^ W, (v.c + u.c) % 2 ^ W, (v.d + u.d) % 2 ^ W, (v.e + u.e) % 2 ^ W, (v.f + u.f) % 2 ^ W, (v.g + u.g) % 2 ^ W, (v.h + u.h) % 2 ^ W⟩
/-- A block's words. -/
def blk (W : Nat) (s : Sh) (ks : List Nat) (v : V8) (l : List Nat) : V8 :=
  plus W v (rnds W s ks (sched W s (ks.length - l.length) l) v)
/-- The number of bytes, the highest first. -/
def be (l : List UInt8) : Nat := l.foldl (fun x b => 256 * x + b.toNat) 0
/-- n bytes at a time, as numbers. -/
def wordsOf (n : Nat) : Nat → List UInt8 → List Nat
  | 0, _ => []
  | c + 1, l => be (l.take n) :: wordsOf n c (l.drop n)
/-- n bytes of a number, the highest first. -/
def bytesOf (x : Nat) : Nat → List UInt8
  | 0 => []
  | n + 1 => UInt8.ofNat (x / 256 ^ n) :: bytesOf x n

/-- A kind: bits of a word, shifts, constants, the words with which a sum begins. -/
structure Kd where
  W : Nat
  s : Sh
  ks : List Nat
  h : V8
def Kd.B (k : Kd) : Nat := 2 * k.W
def Kd.step (k : Kd) (v : V8) (l : List UInt8) : V8 := blk k.W k.s k.ks v (wordsOf (k.W / 8) 16 l)

/-- n blocks. -/
def run (B : Nat) (f : V8 → List UInt8 → V8) : Nat → V8 → List UInt8 → V8 × List UInt8
  | 0, v, l => (v, l)
  | n + 1, v, l => run B f n (f v (l.take B)) (l.drop B)
/-- All whole blocks. -/
def blks (B : Nat) (f : V8 → List UInt8 → V8) (v : V8) (l : List UInt8) : V8 × List UInt8 := run B f (l.length / B) v l
theorem run_add (B : Nat) (f : V8 → List UInt8 → V8) (m : Nat) : ∀ n v l, run B f (n + m) v l = run B f m (run B f n v l).1 (run B f n v l).2
  | 0, v, l => by rw [Nat.zero_add]; rfl
  | n + 1, v, l => by rw [show n + 1 + m = n + m + 1 from by omega, run, run_add B f m n]; rfl
theorem run_len (B : Nat) (f : V8 → List UInt8 → V8) : ∀ n v l, n * B ≤ l.length → (run B f n v l).2.length = l.length - n * B
  | 0, v, l, _ => by simp [run]
  | n + 1, v, l, h => by
    rw [Nat.add_mul, Nat.one_mul] at h
    rw [run, run_len B f n _ _ (by rw [List.length_drop]; omega), List.length_drop, Nat.add_mul, Nat.one_mul]; omega
theorem run_append (B : Nat) (f : V8 → List UInt8 → V8) (y : List UInt8) : ∀ n v l, n * B ≤ l.length → run B f n v (l ++ y) = ((run B f n v l).1, (run B f n v l).2 ++ y)
  | 0, v, l, _ => rfl
  | n + 1, v, l, h => by
    rw [Nat.add_mul, Nat.one_mul] at h
    rw [run, run, List.take_append_of_le_length (by omega), List.drop_append_of_le_length (by omega)]
    exact run_append B f y n _ _ (by rw [List.length_drop]; omega)
theorem blks_rest {B : Nat} (hB : 0 < B) (f : V8 → List UInt8 → V8) (v : V8) (l : List UInt8) : (blks B f v l).2.length = l.length % B := by
  unfold blks
  rw [run_len _ _ _ _ _ (Nat.div_mul_le_self _ _)]
  have := Nat.div_add_mod l.length B
  rw [Nat.mul_comm] at this; omega
/-- What is left goes ahead of what comes. -/
theorem blks_append {B : Nat} (hB : 0 < B) (f : V8 → List UInt8 → V8) (v : V8) (l y : List UInt8) :
    blks B f v (l ++ y) = blks B f (blks B f v l).1 ((blks B f v l).2 ++ y) := by
  have hr := blks_rest hB f v l
  have e : (l ++ y).length / B = l.length / B + ((blks B f v l).2 ++ y).length / B := by
    rw [List.length_append, List.length_append, hr]
    have := Nat.div_add_mod l.length B
    rw [show l.length + y.length = (l.length % B + y.length) + B * (l.length / B) from by omega, Nat.add_mul_div_left _ _ hB, Nat.add_comm]
  rw [show blks B f v (l ++ y) = run B f ((l ++ y).length / B) v (l ++ y) from rfl, e, run_add, run_append _ _ _ _ _ _ (Nat.div_mul_le_self _ _)]
  rfl

/-- What goes behind the bytes: so many zeros that the length comes last in a block. -/
def zeros (B n : Nat) : Nat := (B - B / 8 + B - (n + 1) % B) % B
def padB (B n : Nat) : List UInt8 := (128 : UInt8) :: (List.replicate (zeros B n) 0 ++ bytesOf (8 * n) (B / 8))
/-- The sum. -/
def Kd.sumV (k : Kd) (l : List UInt8) : V8 := (blks k.B k.step k.h (l ++ padB k.B l.length)).1
def Kd.sum (k : Kd) (l : List UInt8) : List UInt8 := (k.sumV l).list.flatMap fun x => bytesOf x (k.W / 8)
/-- A state that goes on: the words so far, what is left, how many bytes there were. -/
structure St where
  v : V8
  r : List UInt8
  n : Nat
def Kd.new (k : Kd) : St := ⟨k.h, [], 0⟩
def Kd.write (k : Kd) (s : St) (l : List UInt8) : St := let q := blks k.B k.step s.v (s.r ++ l); ⟨q.1, q.2, s.n + l.length⟩
def Kd.ask (k : Kd) (s : St) : List UInt8 := (blks k.B k.step s.v (s.r ++ padB k.B s.n)).1.list.flatMap fun x => bytesOf x (k.W / 8)
/-- The state of all bytes. -/
def Kd.at (k : Kd) (l : List UInt8) : St := ⟨(blks k.B k.step k.h l).1, (blks k.B k.step k.h l).2, l.length⟩
theorem Kd.at_write {k : Kd} (hB : 0 < k.B) (l y : List UInt8) : k.write (k.at l) y = k.at (l ++ y) := by
  simp only [Kd.write, Kd.at, ← blks_append hB, List.length_append]
theorem Kd.at_nil {k : Kd} : k.at [] = k.new := by
  simp only [Kd.at, Kd.new, blks, List.length_nil, Nat.zero_div]; rfl
theorem Kd.ask_at {k : Kd} (hB : 0 < k.B) (l : List UInt8) : k.ask (k.at l) = k.sum l := by
  simp only [Kd.ask, Kd.at, ← blks_append hB]; rfl

def sh256 : Sh := ⟨⟨2, 13, 22⟩, ⟨6, 11, 25⟩, ⟨7, 18, 3⟩, ⟨17, 19, 10⟩⟩
def sh512 : Sh := ⟨⟨28, 34, 39⟩, ⟨14, 18, 41⟩, ⟨1, 8, 7⟩, ⟨19, 61, 6⟩⟩
def K : List Nat := [4794697086780616226, 8158064640168781261, 13096744586834688815, 16840607885511220156, 4131703408338449720, 6480981068601479193, 10538285296894168987, 12329834152419229976, 15566598209576043074, 1334009975649890238, 2608012711638119052, 6128411473006802146, 8268148722764581231, 9286055187155687089, 11230858885718282805, 13951009754708518548, 16472876342353939154, 17275323862435702243, 1135362057144423861, 2597628984639134821, 3308224258029322869, 5365058923640841347, 6679025012923562964, 8573033837759648693, 10970295158949994411, 12119686244451234320, 12683024718118986047, 13788192230050041572, 14330467153632333762, 15395433587784984357, 489312712824947311, 1452737877330783856, 2861767655752347644, 3322285676063803686, 5560940570517711597, 5996557281743188959, 7280758554555802590, 8532644243296465576, 9350256976987008742, 10552545826968843579, 11727347734174303076, 12113106623233404929, 14000437183269869457, 14369950271660146224, 15101387698204529176, 15463397548674623760, 17586052441742319658, 1182934255886127544, 1847814050463011016, 2177327727835720531, 2830643537854262169, 3796741975233480872, 4115178125766777443, 5681478168544905931, 6601373596472566643, 7507060721942968483, 8399075790359081724, 8693463985226723168, 9568029438360202098, 10144078919501101548, 10430055236837252648, 11840083180663258601, 13761210420658862357, 14299343276471374635, 14566680578165727644, 15097957966210449927, 16922976911328602910, 17689382322260857208, 500013540394364858, 748580250866718886, 1242879168328830382, 1977374033974150939, 2944078676154940804, 3659926193048069267, 4368137639120453308, 4836135668995329356, 5532061633213252278, 6448918945643986474, 6902733635092675308, 7801388544844847127]
def H0 : Nat := 7640891576956012808
def H1 : Nat := 13503953896175478587
def H2 : Nat := 4354685564936845355
def H3 : Nat := 11912009170470909681
def H4 : Nat := 5840696475078001361
def H5 : Nat := 11170449401992604703
def H6 : Nat := 2270897969802886507
def H7 : Nat := 6620516959819538809
def k256 : Kd := ⟨32, sh256, (K.take 64).map (· / 4294967296), ⟨H0 / 4294967296, H1 / 4294967296, H2 / 4294967296, H3 / 4294967296, H4 / 4294967296, H5 / 4294967296, H6 / 4294967296, H7 / 4294967296⟩⟩
def k512 : Kd := ⟨64, sh512, K, ⟨H0, H1, H2, H3, H4, H5, H6, H7⟩⟩
/-- The document's constants: a root's first 64 bits behind the point, bit by bit, in numbers of 160 bits. -/
structure R3 where
  r : Nat
  q : Nat
  l : Nat
def M160 : Nat := 2 ^ 160
def rmore (p : Nat) (r q : Nat) : Nat := if p = 2 then (1 + r * 2) % M160 else ((1 + r * 3) % M160 + q * 3) % M160
def rstep (n p step : Nat) (s : R3) : R3 :=
  let g := if 64 ≤ step then n / 2 ^ (p * (step - 64)) % 2 ^ p else 0
  let l := (s.l * 2 ^ p + g) % M160
  let r := s.r * 2 % M160
  let q := s.q * 4 % M160
  let m := rmore p r q
  if l < m then ⟨r, q, l⟩ else ⟨(r * 1 + 1) % M160, ((q + r * 2) % M160 * 1 + 1) % M160, l - m⟩
def rloop (n p : Nat) : Nat → R3 → R3
  | 0, s => s
  | k + 1, s => rloop n p k (rstep n p k s)
def rootF (n p : Nat) : Nat := (rloop n p 67 ⟨0, 0, 0⟩).r % 2 ^ 64
def ps : List Nat := [2, 3, 5, 7, 11, 13, 17, 19, 23, 29, 31, 37, 41, 43, 47, 53, 59, 61, 67, 71, 73, 79, 83, 89, 97, 101, 103, 107, 109, 113, 127, 131, 137, 139, 149, 151, 157, 163, 167, 173, 179, 181, 191, 193, 197, 199, 211, 223, 227, 229, 233, 239, 241, 251, 257, 263, 269, 271, 277, 281, 283, 293, 307, 311, 313, 317, 331, 337, 347, 349, 353, 359, 367, 373, 379, 383, 389, 397, 401, 409]
theorem roots3 : ps.map (rootF · 3) = K := by decide +kernel
theorem roots2 : (ps.take 8).map (rootF · 2) = k512.h.list := by decide +kernel
theorem abc : (k256.sum [97, 98, 99]).take 8 = [0xba, 0x78, 0x16, 0xbf, 0x8f, 0x01, 0xcf, 0xea] := by decide +kernel
theorem nil512 : (k512.sum []).take 4 = [0xcf, 0x83, 0xe1, 0x35] := by decide +kernel
theorem abx : k256.sum [97, 98, 99] ≠ k256.sum [97, 98, 120] := by decide +kernel
end Go.Proofs.Ytopiopomioglfaa.Sha
namespace Go.Proofs.Ytopiopomioglfaa
set_option maxRecDepth 100000
set_option linter.unusedVariables false
open Go Go.RowKit Sha

theorem rotr_lt (W x n : Nat) (hx : x < 2 ^ W) : rotr W x n < 2 ^ W :=
  Nat.or_lt_two_pow (Nat.lt_of_le_of_lt (Nat.div_le_self _ _) hx) (Nat.mod_lt _ (Nat.two_pow_pos _))
theorem big_lt (W x : Nat) (n : T3) (hx : x < 2 ^ W) : big W x n < 2 ^ W :=
  Nat.xor_lt_two_pow (Nat.xor_lt_two_pow (rotr_lt _ _ _ hx) (rotr_lt _ _ _ hx)) (rotr_lt _ _ _ hx)
theorem sml_lt (W x : Nat) (n : T3) (hx : x < 2 ^ W) : sml W x n < 2 ^ W :=
  Nat.xor_lt_two_pow (Nat.xor_lt_two_pow (rotr_lt _ _ _ hx) (rotr_lt _ _ _ hx)) (Nat.lt_of_le_of_lt (Nat.div_le_self _ _) hx)
/-- Numbers of bits that a word of W bits is turned by. -/
structure Sha.T3.Ok (W : Nat) (n : T3) : Prop where
  a : 1 ≤ n.a ∧ n.a < W
  b : 1 ≤ n.b ∧ n.b < W
  c : 1 ≤ n.c ∧ n.c < W
def t3v (n : T3) : Value := .agg #[.int .i64 n.a, .int .i64 n.b, .int .i64 n.c]
def t3o (n : T3) : Obj := .cells #[.int .i64 n.a, .int .i64 n.b, .int .i64 n.c] 106

theorem turn32_any (x n : Nat) (hx : x < 4294967296) (hn : 1 ≤ n ∧ n < 32) (w : World) :
    Calls Try.prog 96 #[.int .u32 x, .int .i64 n, .int .i64 32] w fun e w' => e = .returned (.int .u32 (rotr 32 x n : Nat)) ∧ ∃ k, w' = w.drewN k := by
  have h1 : IntKind.i64.wrap (32 - (n : Int)) = 32 - (n : Int) := by rw [IntKind.wrap_i64]; omega
  have h2 : (0 : Int) ≤ 32 - (n : Int) := by omega
  have h3 : (32 - (n : Int)).toNat = 32 - n := by omega
  go_enter Try.func96, Try.ntmps96
  go_wp2
  go_quiet (fail)
  go_wp2
  go_ret
  refine ⟨?_, nq, rfl⟩
  have e1 : (x : Int) / 2 ^ n = ((x / 2 ^ n : Nat) : Int) := by simp
  have e2 : (x : Int) * 2 ^ (32 - n) % 4294967296 = ((x * 2 ^ (32 - n) % 4294967296 : Nat) : Int) := by simp
  first
  | rw [e1, e2, u32_or_nat _ _ (Nat.lt_of_le_of_lt (Nat.div_le_self _ _) hx) (Nat.mod_lt _ (by decide))]
  | rw [e1, IntKind.wrap_u64, e2, u32_or_nat _ _ (Nat.lt_of_le_of_lt (Nat.div_le_self _ _) hx) (Nat.mod_lt _ (by decide))]
  rfl
theorem xor32 (a b : Nat) (ha : a < 4294967296) (hb : b < 4294967296) : bits .xor .u32 (a : Int) (b : Int) = ((a ^^^ b : Nat) : Int) := u32_xor_nat _ _ ha hb

set_option maxHeartbeats 1000000 in
/-- mix, of turns alone. -/
theorem mix32_big (x : Nat) (n : T3) (hx : x < 4294967296) (hn : n.Ok 32) (w : World) :
    Calls Try.prog 87 #[.int .u32 x, t3v n, .int .i64 32, .bool true] w fun e w' => e = .returned (.int .u32 (big 32 x n : Nat)) ∧ ∃ k, w' = (w.alloc (t3o n)).drewN k := by
  have ha := hn.a; have hb := hn.b; have hc := hn.c
  have r1 := rotr_lt 32 x n.a hx; have r2 := rotr_lt 32 x n.b hx; have r3 := rotr_lt 32 x n.c hx
  have q1 := xor32 _ _ r1 r2
  have r4 := Nat.xor_lt_two_pow r1 r2
  have q2 := xor32 _ _ r4 r3
  clear r1 r2 r3 r4 hn
  have hx := Box.mk hx; have ha := Box.mk ha; have hb := Box.mk hb; have hc := Box.mk hc
  unfold t3v
  go_enter Try.func87, Try.ntmps87
  go_wp2_with fail
  go_quiet (first
    | (go_at_call 96; with_reducible exact Calls.quiet_of (turn32_any x n.a hx.out ha.out _))
    | (go_at_call 96; with_reducible exact Calls.quiet_of (turn32_any x n.b hx.out hb.out _))
    | (go_at_call 96; with_reducible exact Calls.quiet_of (turn32_any x n.c hx.out hc.out _)))
  go_wp2
  go_ret
  exact ⟨rfl, nq, rfl⟩
set_option maxHeartbeats 1000000 in
/-- mix, the last one a shift. -/
theorem mix32_sml (x : Nat) (n : T3) (hx : x < 4294967296) (hn : n.Ok 32) (w : World) :
    Calls Try.prog 87 #[.int .u32 x, t3v n, .int .i64 32, .bool false] w fun e w' => e = .returned (.int .u32 (sml 32 x n : Nat)) ∧ ∃ k, w' = (w.alloc (t3o n)).drewN k := by
  have ha := hn.a; have hb := hn.b; have hc := hn.c
  have r1 := rotr_lt 32 x n.a hx; have r2 := rotr_lt 32 x n.b hx
  have r3 : x / 2 ^ n.c < 2 ^ 32 := Nat.lt_of_le_of_lt (Nat.div_le_self _ _) hx
  have q1 := xor32 _ _ r1 r2
  have r4 := Nat.xor_lt_two_pow r1 r2
  have q2 := xor32 _ _ r4 r3
  have e1 : (x : Int) / 2 ^ n.c = ((x / 2 ^ n.c : Nat) : Int) := by simp
  rw [← e1] at q2
  clear r1 r2 r3 r4 hn e1
  have hx := Box.mk hx; have ha := Box.mk ha; have hb := Box.mk hb
  unfold t3v
  go_enter Try.func87, Try.ntmps87
  go_wp2_with fail
  go_quiet (first
    | (go_at_call 96; with_reducible exact Calls.quiet_of (turn32_any x n.a hx.out ha.out _))
    | (go_at_call 96; with_reducible exact Calls.quiet_of (turn32_any x n.b hx.out hb.out _)))
  go_wp2
  go_ret
  exact ⟨rfl, nq, rfl⟩

theorem turn64_any (x n : Nat) (hx : x < 18446744073709551616) (hn : 1 ≤ n ∧ n < 64) (w : World) :
    Calls Try.prog 97 #[.int .u64 x, .int .i64 n, .int .i64 64] w fun e w' => e = .returned (.int .u64 (rotr 64 x n : Nat)) ∧ ∃ k, w' = w.drewN k := by
  have h1 : IntKind.i64.wrap (64 - (n : Int)) = 64 - (n : Int) := by rw [IntKind.wrap_i64]; omega
  have h2 : (0 : Int) ≤ 64 - (n : Int) := by omega
  have h3 : (64 - (n : Int)).toNat = 64 - n := by omega
  go_enter Try.func97, Try.ntmps97
  go_wp2
  go_quiet (fail)
  go_wp2
  go_ret
  refine ⟨?_, nq, rfl⟩
  have e1 : (x : Int) / 2 ^ n = ((x / 2 ^ n : Nat) : Int) := by simp
  have e2 : (x : Int) * 2 ^ (64 - n) % 18446744073709551616 = ((x * 2 ^ (64 - n) % 18446744073709551616 : Nat) : Int) := by simp
  first
  | rw [e1, e2, u64_or_nat _ _ (Nat.lt_of_le_of_lt (Nat.div_le_self _ _) hx) (Nat.mod_lt _ (by decide))]
  | rw [e1, IntKind.wrap_u64, e2, u64_or_nat _ _ (Nat.lt_of_le_of_lt (Nat.div_le_self _ _) hx) (Nat.mod_lt _ (by decide))]
  rfl
theorem xor64 (a b : Nat) (ha : a < 18446744073709551616) (hb : b < 18446744073709551616) : bits .xor .u64 (a : Int) (b : Int) = ((a ^^^ b : Nat) : Int) := u64_xor_nat _ _ ha hb

set_option maxHeartbeats 1000000 in
/-- mix, of turns alone. -/
theorem mix64_big (x : Nat) (n : T3) (hx : x < 18446744073709551616) (hn : n.Ok 64) (w : World) :
    Calls Try.prog 88 #[.int .u64 x, t3v n, .int .i64 64, .bool true] w fun e w' => e = .returned (.int .u64 (big 64 x n : Nat)) ∧ ∃ k, w' = (w.alloc (t3o n)).drewN k := by
  have ha := hn.a; have hb := hn.b; have hc := hn.c
  have r1 := rotr_lt 64 x n.a hx; have r2 := rotr_lt 64 x n.b hx; have r3 := rotr_lt 64 x n.c hx
  have q1 := xor64 _ _ r1 r2
  have r4 := Nat.xor_lt_two_pow r1 r2
  have q2 := xor64 _ _ r4 r3
  clear r1 r2 r3 r4 hn
  have hx := Box.mk hx; have ha := Box.mk ha; have hb := Box.mk hb; have hc := Box.mk hc
  unfold t3v
  go_enter Try.func88, Try.ntmps88
  go_wp2_with fail
  go_quiet (first
    | (go_at_call 97; with_reducible exact Calls.quiet_of (turn64_any x n.a hx.out ha.out _))
    | (go_at_call 97; with_reducible exact Calls.quiet_of (turn64_any x n.b hx.out hb.out _))
    | (go_at_call 97; with_reducible exact Calls.quiet_of (turn64_any x n.c hx.out hc.out _)))
  go_wp2
  go_ret
  exact ⟨rfl, nq, rfl⟩
set_option maxHeartbeats 1000000 in
/-- mix, the last one a shift. -/
theorem mix64_sml (x : Nat) (n : T3) (hx : x < 18446744073709551616) (hn : n.Ok 64) (w : World) :
    Calls Try.prog 88 #[.int .u64 x, t3v n, .int .i64 64, .bool false] w fun e w' => e = .returned (.int .u64 (sml 64 x n : Nat)) ∧ ∃ k, w' = (w.alloc (t3o n)).drewN k := by
  have ha := hn.a; have hb := hn.b; have hc := hn.c
  have r1 := rotr_lt 64 x n.a hx; have r2 := rotr_lt 64 x n.b hx
  have r3 : x / 2 ^ n.c < 2 ^ 64 := Nat.lt_of_le_of_lt (Nat.div_le_self _ _) hx
  have q1 := xor64 _ _ r1 r2
  have r4 := Nat.xor_lt_two_pow r1 r2
  have q2 := xor64 _ _ r4 r3
  have e1 : (x : Int) / 2 ^ n.c = ((x / 2 ^ n.c : Nat) : Int) := by simp
  rw [← e1] at q2
  clear r1 r2 r3 r4 hn e1
  have hx := Box.mk hx; have ha := Box.mk ha; have hb := Box.mk hb
  unfold t3v
  go_enter Try.func88, Try.ntmps88
  go_wp2_with fail
  go_quiet (first
    | (go_at_call 97; with_reducible exact Calls.quiet_of (turn64_any x n.a hx.out ha.out _))
    | (go_at_call 97; with_reducible exact Calls.quiet_of (turn64_any x n.b hx.out hb.out _)))
  go_wp2
  go_ret
  exact ⟨rfl, nq, rfl⟩
end Go.Proofs.Ytopiopomioglfaa
namespace Go.Proofs.Ytopiopomioglfaa
set_option maxRecDepth 100000
set_option linter.unusedVariables false
open Go Go.RowKit

theorem heap_setCells (b : Nat) (T : TypeId) : ∀ (vs P R : List Value) (w : World), w.heap[b]? = some (.cells (P ++ R).toArray T (0, 0)) → vs.length ≤ R.length →
    (w.setCells b P.length vs).heap[b]? = some (.cells (P ++ vs ++ R.drop vs.length).toArray T (0, 0))
  | [], P, R, w, h, _ => by simpa [World.setCells] using h
  | v :: vs, P, R, w, h, hl => by
    cases R with
    | nil => simp at hl
    | cons x R =>
      rw [World.setCells]
      have h1 : (w.setCell ⟨b, P.length, none⟩ v).heap[b]? = some (.cells ((P ++ [v]) ++ R).toArray T (0, 0)) := by
        rw [heap_setCell_same _ _ _ _ _ _ h, List.setIfInBounds_toArray, List.set_append_right _ _ (Nat.le_refl _), Nat.sub_self, List.set_cons_zero, List.append_assoc]; rfl
      have := heap_setCells b T vs (P ++ [v]) R _ h1 (by simpa using hl)
      rw [List.length_append, List.length_singleton] at this
      rw [this, List.length_cons, List.drop_succ_cons, List.append_assoc P [v] vs]; rfl
theorem upd_setCells (b : Nat) (vs : List Value) (o : Nat) (w : World) : Upd [b] w (w.setCells b o vs) := by
  induction vs generalizing o w with
  | nil => exact Upd.refl _ _
  | cons v vs ih => exact ((Upd.refl [b] w).setCell (p := ⟨b, o, none⟩) (by simp) v).trans (ih (o + 1) _)
theorem size_setCells (b : Nat) (vs : List Value) (o : Nat) (w : World) : (w.setCells b o vs).heap.size = w.heap.size := by
  induction vs generalizing o w with
  | nil => rfl
  | cons v vs ih => rw [World.setCells, ih]; simp
/-- append where there is room: the world behind it. -/
theorem append_room {P : Program} {t e ty T : TypeId} {i : TypeInfo} (ht : P.underlying t = some (.slice e)) (hi : P.info? e = some i) (hsz : i.size = 1)
    {w : World} {g cap n m c : Nat} {a : Addr} {xs news R : List Value} (hg : w.heap[g]? = some (.cells (xs ++ R).toArray T (0, 0))) (hn : xs.length = n) (hm : news.length = m)
    (hnews : ∀ j u, news[j]? = some u → w.cell? (a.add j) = some u) (h1 : ∀ u ∈ news, u.oneCell' = true) (hroom : n + m ≤ cap) (hR : m ≤ R.length) :
    (Builtin.append_ #[t, t] ty #[.slice (some ⟨g, 0, none⟩) n cap, .slice (some a) m c]).run P w = .ok (.slice (some ⟨g, 0, none⟩) (n + m) cap) (w.setCells g n news) ∧
      (w.setCells g n news).heap[g]? = some (.cells (xs ++ news ++ R.drop m).toArray T (0, 0)) := by
  subst hn hm
  have h := run_append_room_cells (P := P) (w := w) t ty e i ht hi g 0 xs.length cap a news.length c news (by rw [hsz, Nat.mul_one]) hnews h1 hroom (fun j hj => by
    rw [hsz, Nat.zero_add, Nat.mul_one, cell_of_row _ _ _ _ _ _ hg, List.getElem?_toArray, List.getElem?_append_right (by omega), List.getElem?_eq_getElem (by omega)]; rfl) (fun j hj => frozen_of_row _ _ _ _ _ hg)
  rw [hsz, Nat.zero_add, Nat.mul_one] at h
  exact ⟨h, heap_setCells g T news xs R w hg hR⟩
/-- make of l ones, with room for c. -/
theorem make_room {P : Program} {t e : TypeId} {z : Value} {by_ : Nat} (ht : P.underlying t = some (.slice e)) (hinfo : (P.info? e).map (fun i => (i.zero, i.size, i.bytes)) = some (some z, 1, by_)) (hz : z.cells = #[z])
    (l c : Nat) (hlc : l ≤ c) (hc : c ≤ 1000000) (hby : by_ ≤ 16) (x y : Int) (hx : x = l) (hy : y = c) (w : World) :
    (Instr.makeSlice t (.int .i64 x) (.int .i64 y)).run P w = .ok (.slice (some ⟨w.heap.size, 0, none⟩) l c) (w.alloc (.cells (List.replicate c z).toArray e)) := by
  subst hx hy
  obtain ⟨i0, hi, hz0, hz1, hz2⟩ := info_parts hinfo
  have hb : (by_ : Int) * c ≤ 281474976710656 := by
    have : by_ * c ≤ 16 * 1000000 := Nat.mul_le_mul hby hc
    omega
  have h := run_make (P := P) w t e i0 z ht hi hz0 .i64 .i64 l c (by omega) (by omega) (by rw [hz2]; exact hb) (by omega)
  rw [h, hz1, Int.toNat_natCast, Int.toNat_natCast, Nat.mul_one, hz]
  congr 3
  apply Array.ext
  · simp [madeCells]
  · intro i h1 h2
    simp [madeCells, Nat.mod_one]
/-- append by an equation of its run. -/
theorem wpList_append_run {P : Program} {w w' : World} {ops : Array Oper} {rest : List Oper} {o : Oper} {a : Act} {Q : Exit → Act → World → Prop} (hg : o.guard = none) (s x : Operand) (t : TypeId)
    (hop : o.op = Op.call { callee := Callee.builtin Builtin.append, args := #[s, x], argTypes := #[t, t] }) {v1 v2 v : Value} (hs : a.eval s = v1) (hx : a.eval x = v2)
    (hrun : (Builtin.append_ #[t, t] o.type #[v1, v2]).run P w = .ok v w') (hK : wpList P ops Q rest (a.put o.dst v) w') : wpList P ops Q (o :: rest) a w := by
  refine wpList_plain hg fun K hK' => ?_
  unfold Oper.wp
  simp [execOp, hop, resolve, invoke, builtin, hs, hx, hrun, Result.andThen]
  exact hK' _ _ hK
/-- append of one to a row of the call's own, as the walk meets it: the one lies in a new block; what lies below B stands. -/
theorem wpList_append1 {P : Program} {w w0 : World} {ops : Array Oper} {rest : List Oper} {o : Oper} {a : Act} {Q : Exit → Act → World → Prop} (hgd : o.guard = none) (s x : Operand) (t : TypeId)
    (ho : o.op = .call { callee := .builtin .append, args := #[s, x], argTypes := #[t, t] })
    (B : Nat) (e : TypeId) (z : Value) (by_ : Nat) (ht : P.underlying t = some (.slice e)) (hi : (P.info? e).map (fun i => (i.zero, i.size, i.bytes)) = some (some z, 1, by_)) (hz : z.cells.size = 1)
    (v : Value) (n : Nat) (xs : List Value) (hs : a.eval s = v) (hown : w.ownsRow B e 1 v n xs) (hb : Below B w0 w) (hB : B ≤ w.heap.size)
    (y : Value) (hx : a.eval x = .slice (some ⟨w.heap.size, 0, none⟩) 1 1) (h1 : y.oneCell' = true) (hn : n ≤ 1000000000) (hby : by_ ≤ 16)
    (h : ∀ v' w', w'.ownsRow B e 1 v' (n + 1) (xs ++ [y]) → Below B w0 w' → B ≤ w'.heap.size → (w.alloc (.cells #[y] e)).grownBy w' v.ownBlock → v' ≠ .slice none 0 0 → wpList P ops Q rest (a.put o.dst v') w') :
    wpList P ops Q (o :: rest) a (w.alloc (.cells #[y] e)) := by
  obtain ⟨i0, hi0, hz0, hz1, hz2⟩ := info_parts hi
  refine wpList_append_own _ hgd s x t ho B e i0 z 1 by_ ht hi0 hz0 hz1 hz2 hz (by decide) v n xs hs (hown.alloc _) ⟨w.heap.size, 0, none⟩ 1 1 [y] hx rfl ?_ ?_ ?_ ?_ ?_ ?_
  · intro j u hj
    match j, hj with
    | 0, hj => simp at hj; subst hj; simp [Addr.add]
  · intro u hu; simp at hu; subst hu; exact h1
  · unfold maxLen; omega
  · have : (n + 1) * by_ ≤ (n + 1) * 16 := Nat.mul_le_mul (Nat.le_refl _) hby
    omega
  · simp; omega
  · intro v' w' ho' hg' hnil
    have hlo := hown.lt
    have hbel := (hb.alloc hB (.cells #[y] e)).grown hg' (by simp; omega) (fun t ht => (hlo t ht).1)
    have hs' := hg'.size
    rw [World.size_alloc] at hs'
    exact h v' w' ho' hbel (by omega) hg' (fun e => absurd (hnil.1 e).2 (by decide))
/-- A row of the call's own: its cells. -/
theorem owned_cells {w : World} {base n : Nat} {e : TypeId} {v : Value} {xs : List Value} (h : w.ownsRow base e 1 v n xs) (hn : v ≠ .slice none 0 0) :
    ∃ g cap, v = .slice (some ⟨g, 0, none⟩) n cap ∧ base ≤ g ∧ (∀ j u, xs[j]? = some u → w.cell? ⟨g, j, none⟩ = some u) ∧ g < w.heap.size ∧ n ≤ cap := by
  have hc := fun g hg => h.cells (g := g) hg
  rcases h.2 with ⟨rfl, rfl⟩ | ⟨g, cap, cur, rfl, hbg, hg, hnc, _⟩
  · exact absurd rfl hn
  · refine ⟨g, cap, rfl, hbg, fun j u hu => ?_, (Array.getElem?_eq_some_iff.1 hg).1, hnc⟩
    have := hc g rfl j u hu
    rwa [show ((⟨g, 0, none⟩ : Addr).add j) = ⟨g, j, none⟩ from by unfold Addr.add; split <;> simp_all] at this
/-- string(b), from any cells. -/
theorem run_str_at (P : Program) (w : World) (b off cap : Nat) (l : List UInt8) (src dst e : TypeId) (n : Nat) (hn : l.length = n)
    (hs : P.underlying src = some (.slice e)) (he : P.underlying e = some (.int .u8)) (hd : P.underlying dst = some .string)
    (hg : ∀ j u, l[j]? = some u → w.cell? ⟨b, off + j, none⟩ = some (.int .u8 (u.toNat : Int))) :
    (convert src dst (.slice (some ⟨b, off, none⟩) n cap)).run P w = .ok (.string ⟨l.toArray⟩) w := by
  subst hn
  rw [run_convert_bytes_string w src dst e _ _ _ hs he hd]
  have h := run_loadCells_list (P := P) (w := w) ⟨b, off, none⟩ ((l.map fun u => (u.toNat : Int)).map (Value.int .u8)) (by
    intro j v hj
    have : (⟨b, off, none⟩ : Addr).add j = ⟨b, off + j, none⟩ := by unfold Addr.add; split <;> simp_all
    rw [this]
    rw [List.getElem?_map, List.getElem?_map] at hj
    cases hl : l[j]? with
    | none => rw [hl] at hj; simp at hj
    | some u => rw [hl] at hj; simp at hj; subst hj; exact hg j u hl)
  rw [List.length_map, List.length_map] at h
  rw [run_bytesToString w _ _ _ _ h]
  have : ∀ (l : List UInt8) (acc : ByteArray), (l.map fun u => (u.toNat : Int)).foldl (fun r n => r.push (UInt8.ofNat n.toNat)) acc = ⟨(acc.data.toList ++ l).toArray⟩ := by
    intro l
    induction l with
    | nil => intro acc; simp
    | cons c l ih => intro acc; simp only [List.map_cons, List.foldl_cons]; rw [ih]; simp [ByteArray.push]
  rw [this]
  rfl
/-- An aggregate built, under a name. -/
theorem wpList_built {P : Program} {ops : Array Oper} {rest : List Oper} {o : Oper} {a : Act} {w : World} {Q : Exit → Act → World → Prop} (hg : o.guard = none) (t : TypeId) (parts : Array (Nat × Operand)) (ho : o.op = .build t parts)
    (cs : Array Value) (hf : P.built t (parts.map fun (i, x) => (i, a.eval x)).toList = some cs) (h : wpList P ops Q rest (a.put o.dst (.agg cs)) w) : wpList P ops Q (o :: rest) a w :=
  wpList_build hg t parts ho (by rw [hf]; rfl) (by rw [hf]; exact h)
def byv (u : UInt8) : Value := .int .u8 (u.toNat : Int)
theorem run_str_owned {P : Program} {w : World} {base n : Nat} {e src dst : TypeId} {v : Value} {l : List UInt8} (h : w.ownsRow base e 1 v n (l.map byv)) (hn : v ≠ .slice none 0 0)
    (hs : P.underlying src = some (.slice e)) (he : P.underlying e = some (.int .u8)) (hd : P.underlying dst = some .string) : (convert src dst v).run P w = .ok (.string ⟨l.toArray⟩) w := by
  have hl := h.1
  rw [List.length_map, Nat.mul_one] at hl
  obtain ⟨g, cap, rfl, _, hc, _, _⟩ := owned_cells h hn
  exact run_str_at P w g 0 cap l src dst e n hl hs he hd (fun j u hj => by rw [Nat.zero_add]; exact hc j _ (by rw [List.getElem?_map, hj]; rfl))
end Go.Proofs.Ytopiopomioglfaa
