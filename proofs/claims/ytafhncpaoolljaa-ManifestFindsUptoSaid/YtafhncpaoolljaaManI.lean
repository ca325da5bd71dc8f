/- Manifest: Parse of the program. -/
import Derived.Test.YtafhncpaoolljaaManH
namespace Go.Proofs.Ytafhncpaoolljaa
set_option maxRecDepth 100000
set_option linter.unusedVariables false
open Go Go.RowKit

/-- What Parse leaves. -/
def ParV (S : List UInt8) (w : World) (e : Ending) (w' : World) : Prop :=
  Below w.heap.size w w' ∧ ∃ (v : Value), e = .returned (.tuple #[v, .int .i64 (parseM 220 221 S).2]) ∧ w'.ownsRow w.heap.size 33 2 v (parseM 220 221 S).1.length (smC (parseM 220 221 S).1) ∧ (∀ x ∈ (parseM 220 221 S).1, x.May)
theorem cut_len (s sep : List UInt8) : (Lib.cut s sep).1.length ≤ s.length ∧ (Lib.cut s sep).2.1.length ≤ s.length := by
  unfold Lib.cut
  split
  · exact ⟨by rw [List.length_take]; omega, by rw [List.length_drop]; omega⟩
  · exact ⟨Nat.le_refl _, Nat.zero_le _⟩
theorem arr_size (l : List UInt8) : (⟨l.toArray⟩ : ByteArray).size = l.length := by show l.toArray.size = _; simp
theorem cut_nl_any (s : ByteArray) (m : Int) (w : World) (hs : s.size ≤ 1500000) (hm : w.cell? ⟨0, 0, none⟩ = some (.int .i64 m)) :
    Calls Try.prog 23 #[.string s, .string ⟨#[10]⟩] w fun e w' => (∃ a b f, e = .returned (.tuple #[.string a, .string b, .bool f]) ∧ ((f = false ∧ cutL s.data.toList = none) ∨ (f = true ∧ cutL s.data.toList = some (a.data.toList, b.data.toList))) ∧ a.size ≤ s.size ∧ b.size ≤ s.size) ∧ Below w.heap.size w w' := by
  refine (Try.strings_Cut s ⟨#[10]⟩ m w (by omega) hm).mono ?_
  rintro e w' ⟨rfl, n, rfl⟩
  have hl := cut_len s.data.toList (⟨#[10]⟩ : ByteArray).data.toList
  refine ⟨⟨_, _, _, rfl, ?_, by rw [arr_size, ← ba_len]; exact hl.1, by rw [arr_size, ← ba_len]; exact hl.2⟩, bdrewN (Below.refl _ _) n⟩
  have h : (⟨#[10]⟩ : ByteArray).data.toList = [10] := rfl
  rw [h, cut_nl]
  cases hc : cutL s.data.toList with
  | none => exact .inl ⟨rfl, rfl⟩
  | some p => exact .inr ⟨rfl, rfl⟩
theorem cut_bl_any (s : ByteArray) (m : Int) (w : World) (hs : s.size ≤ 1500000) (hm : w.cell? ⟨0, 0, none⟩ = some (.int .i64 m)) :
    Calls Try.prog 23 #[.string s, .string ⟨#[32, 32]⟩] w fun e w' => (∃ a b f, e = .returned (.tuple #[.string a, .string b, .bool f]) ∧ Lib.cut s.data.toList [32, 32] = (a.data.toList, b.data.toList, f) ∧ a.size ≤ s.size ∧ b.size ≤ s.size) ∧ Below w.heap.size w w' := by
  refine (Try.strings_Cut s ⟨#[32, 32]⟩ m w (by omega) hm).mono ?_
  rintro e w' ⟨rfl, n, rfl⟩
  have hl := cut_len s.data.toList (⟨#[32, 32]⟩ : ByteArray).data.toList
  exact ⟨⟨_, _, _, rfl, rfl, by rw [arr_size, ← ba_len]; exact hl.1, by rw [arr_size, ← ba_len]; exact hl.2⟩, bdrewN (Below.refl _ _) n⟩
theorem str_neS (s : ByteArray) (h : s.size ≠ 0) : s.toList.isEmpty = false := by
  rw [ByteArray.toList_eq]; cases hd : s.data.toList with
  | nil => exact absurd (by rw [← ba_len, hd]; rfl) h
  | cons a b => rfl
theorem own_slice {w : World} {base : Nat} {e : TypeId} {size : Nat} {v : Value} {n : Nat} {xs : List Value} (h : w.ownsRow base e size v n xs) : ∃ ao cap, v = .slice ao n cap := by
  rcases h.2 with ⟨hv, h0⟩ | ⟨g, cap, cur, hv, _⟩
  · exact ⟨none, 0, by rw [hv, h0]⟩
  · exact ⟨_, cap, hv⟩
theorem lineC_none {a d n : List UInt8} {f : Bool} (hc : Lib.cut a [32, 32] = (d, n, f)) (h : unhexL d = none ∨ f = false) : lineM a = none := by
  rw [← lineC_eq]; unfold lineC
  rw [hc]
  rcases h with h | h
  · dsimp only; rw [h]
  · dsimp only
    cases unhexL d with
    | none => rfl
    | some l => dsimp only; rw [if_neg (by rw [h]; simp)]
theorem lineC_may {a n : List UInt8} {dl : List UInt8} {d : List UInt8} {x : SM} (hc : Lib.cut a [32, 32] = (d, n, true)) (hu : unhexL d = some dl) (hx : x = ⟨⟨n.toArray⟩, ⟨dl.toArray⟩⟩) : lineM a = if x.may = true then some x else none := by
  rw [← lineC_eq]; unfold lineC
  rw [hc]
  dsimp only
  rw [hu]
  dsimp only
  rw [← hx]
  by_cases h : x.may = true
  · rw [if_pos ⟨rfl, h⟩, if_pos h]
  · rw [if_neg (by intro e; exact h e.2), if_neg h]
set_option maxHeartbeats 8000000 in
theorem parse_any (s : ByteArray) (m : Int) (hs : s.size ≤ 1500000) (w : World) (hm : w.cell? ⟨0, 0, none⟩ = some (.int .i64 m)) : Calls Try.prog 13 #[.string s] w (ParV s.data.toList w) := by
  obtain ⟨S, hS⟩ : ∃ S, S = s.data.toList := ⟨_, rfl⟩
  obtain ⟨B, hB⟩ : ∃ B, B = w.heap.size := ⟨_, rfl⟩
  have HBW := Box.mk hB
  have HM := Box.mk (fun (w1 : World) (h : Below B w w1) => (show w1.cell? ⟨0, 0, none⟩ = some (.int .i64 m) from (h.cell (p := ⟨0, 0, none⟩) (by rw [hB]; exact World.block_lt_of_cell? w _ hm)).trans hm))
  obtain ⟨i0, hi0, hz0, hsz0, hby0⟩ := info_parts infoSm
  have P0 := Box.mk (show parseM 220 221 S = restM 220 221 [] s.data.toList by rw [restM_start, hS])
  rw [← hS]
  clear hS hm hB
  go_enter Try.func13, Try.ntmps13
  go_wp2_with fail
  go_loopw [4, 5] (fun v r wr => ∃ (ls : List SM) (rest : ByteArray) (ao : Option Addr) (cap : Nat), v = .slice ao ls.length cap ∧ r = .string rest ∧ parseM 220 221 S = restM 220 221 ls rest.data.toList ∧ (∀ x ∈ ls, x.May) ∧ ls.length ≤ 17 ∧ rest.size ≤ s.size ∧ wr.ownsRow B 33 2 (.slice ao ls.length cap) ls.length (smC ls) ∧ Below B w wr) (fun _ r _ => match r with | .string x => x.size | _ => 0)
  case atStart => exact ⟨[], s, none, 0, rfl, rfl, P0.out, (fun x hx => by cases hx), Nat.zero_le _, Nat.le_refl _, World.ownsRow_nil _ _ _ _, Below.refl _ _⟩
  case round =>
    clear P0
    obtain ⟨ls, rest, ao, cap, rfl, rfl, hp, hmay, hl17, hrs, how, hb⟩ := hrel
    have PV := Box.mk hp; have MAY := Box.mk hmay; have OW := Box.mk how; have HB := Box.mk hb; have HL := Box.mk (And.intro hl17 hrs)
    clear hp hmay how hb
    by_cases hr : rest.size = 0
    · as_aux_lemma =>
      have he : rest.toList.isEmpty = true := by
        rw [ByteArray.toList_eq]
        have : rest.data.toList = [] := List.eq_nil_of_length_eq_zero (by rw [ba_len]; exact hr)
        rw [this]; rfl
      have hre : rest.data.toList = [] := List.eq_nil_of_length_eq_zero (by rw [ba_len]; exact hr)
      have EX := Box.mk (restM_end 220 221 ls)
      rw [hre] at PV
      clear hr hre hl17 hrs
      have SS := Box.mk (sums_of_own OW.out (by unfold maxLen; have := HL.out; omega) (fun x hx => ⟨Nat.le_trans (MAY.out x hx).few (by unfold maxLen; omega), by rw [(MAY.out x hx).sum]; unfold maxLen; omega⟩))
      have PR := Box.mk (print_any ls _ wr SS.out)
      unfold prV at PR
      obtain ⟨C, hC⟩ : ∃ C, C = (printM 220 221 ls).2 := ⟨_, rfl⟩
      rw [← hC] at PR EX
      have HCC := Box.mk hC
      clear hC SS
      go_wp2_with fail
      refine PR.out.mono ?_
      rintro e w2 ⟨rfl, hb⟩
      have B2 := Box.mk (HB.out.trans (hb.mono (by have := HB.out.size; have := HBW.out; omega)))
      have OW2 := Box.mk (ownS_below OW.out hb)
      clear hb PR OW HB
      by_cases hc0 : C = 0
      · have hcI : (C != 0) = false := by rw [bne_eq_false_iff_eq]; exact hc0
        have HN : Box (parseM 220 221 S = (ls, 0)) := ⟨by rw [PV.out, EX.out, if_pos hc0]⟩
        clear hc0
        go_wp2_with fail
        go_ret2
        unfold ParV
        rw [HN.out]
        exact ⟨HBW.out ▸ B2.out, _, rfl, HBW.out ▸ OW2.out, MAY.out⟩
      · have hcI : (C != 0) = true := by rw [bne_iff_ne]; exact hc0
        have HN : Box (parseM 220 221 S = ([], C)) := ⟨by rw [PV.out, EX.out, if_neg hc0]⟩
        clear hc0
        go_wp2_with fail
        go_ret2
        unfold ParV
        rw [HN.out]
        exact ⟨HBW.out ▸ B2.out, _, rfl, World.ownsRow_nil _ _ _ _, fun x hx => by cases hx⟩
    · have he : rest.toList.isEmpty = false := str_neS rest hr
      by_cases h17 : 16 < ls.length
      · as_aux_lemma =>
        have h17I : ¬ (ls.length : Int) ≤ 16 := by omega
        have EX : Box (restM 220 221 ls rest.data.toList = if (printM 220 221 ls).2 = 0 then (ls, 0) else ([], (printM 220 221 ls).2)) := ⟨by rw [restM_long (by decide) h17, printM_long 220 221 h17, if_neg (by decide)]⟩
        clear hr h17 hl17 hrs
        have SS := Box.mk (sums_of_own OW.out (by unfold maxLen; have := HL.out; omega) (fun x hx => ⟨Nat.le_trans (MAY.out x hx).few (by unfold maxLen; omega), by rw [(MAY.out x hx).sum]; unfold maxLen; omega⟩))
        have PR := Box.mk (print_any ls _ wr SS.out)
        unfold prV at PR
        obtain ⟨C, hC⟩ : ∃ C, C = (printM 220 221 ls).2 := ⟨_, rfl⟩
        rw [← hC] at PR EX
        have HCC := Box.mk hC
        clear hC SS
        go_wp2_with fail
        refine PR.out.mono ?_
        rintro e w2 ⟨rfl, hb⟩
        have B2 := Box.mk (HB.out.trans (hb.mono (by have := HB.out.size; have := HBW.out; omega)))
        have OW2 := Box.mk (ownS_below OW.out hb)
        clear hb PR OW HB
        by_cases hc0 : C = 0
        · have hcI : (C != 0) = false := by rw [bne_eq_false_iff_eq]; exact hc0
          have HN : Box (parseM 220 221 S = (ls, 0)) := ⟨by rw [PV.out, EX.out, if_pos hc0]⟩
          clear hc0
          go_wp2_with fail
          go_ret2
          unfold ParV
          rw [HN.out]
          exact ⟨HBW.out ▸ B2.out, _, rfl, HBW.out ▸ OW2.out, MAY.out⟩
        · have hcI : (C != 0) = true := by rw [bne_iff_ne]; exact hc0
          have HN : Box (parseM 220 221 S = ([], C)) := ⟨by rw [PV.out, EX.out, if_neg hc0]⟩
          clear hc0
          go_wp2_with fail
          go_ret2
          unfold ParV
          rw [HN.out]
          exact ⟨HBW.out ▸ B2.out, _, rfl, World.ownsRow_nil _ _ _ _, fun x hx => by cases hx⟩
      · have h17I : (ls.length : Int) ≤ 16 := by omega
        have HR := Box.mk (show rest.data.toList ≠ [] from fun e => hr (by rw [← ba_len, e]; rfl))
        have H16 := Box.mk (show ls.length ≤ 16 by omega)
        have hrs5 : rest.size ≤ 1500000 := by omega
        have C1 := Box.mk (cut_nl_any rest m wr hrs5 (HM.out wr HB.out))
        have HRS := Box.mk (And.intro hrs5 hr)
        clear hr h17 hl17 hrs hrs5
        go_wp2_with fail
        refine C1.out.mono ?_
        rintro e w1 ⟨⟨a, b, f, rfl, hf, ha, hbs⟩, hb1⟩
        have B1 := Box.mk (HB.out.trans (hb1.mono (by have := HB.out.size; have := HBW.out; omega)))
        have O1 := Box.mk (ownS_below OW.out hb1)
        have C2 := Box.mk (cut_bl_any a m w1 (by have := HRS.out.1; omega) (HM.out w1 B1.out))
        have FB := Box.mk hf; have AB := Box.mk (And.intro ha hbs)
        clear hb1 hf ha hbs C1 OW HB
        go_wp2_with fail
        refine C2.out.mono ?_
        rintro e w2 ⟨⟨d, n, g, rfl, hcut, hd, hn⟩, hb2⟩
        have B2 := Box.mk (B1.out.trans (hb2.mono (by have := B1.out.size; have := HBW.out; omega)))
        have O2 := Box.mk (ownS_below O1.out hb2)
        have CU := Box.mk hcut; have DN := Box.mk (And.intro hd hn)
        have UN := Box.mk (unhex_any d (by have := HRS.out.1; have := AB.out.1; omega) w2)
        clear hb2 hcut hd hn C2 O1 B1
        unfold unV at UN
        cases hu : unhexL d.data.toList with
        | none => as_aux_lemma =>
          rw [hu] at UN
          dsimp only at UN
          go_wp2_with fail
          refine UN.out.mono ?_
          rintro e w3 ⟨rfl, hb3⟩
          have B3 := Box.mk (B2.out.trans (hb3.mono (by have := B2.out.size; have := HBW.out; omega)))
          obtain ⟨W4, hW4⟩ : ∃ W, W = w3.alloc (.cells #[.string n, .string ⟨#[]⟩] 33) := ⟨_, rfl⟩
          have B4 := Box.mk (show Below B w W4 by rw [hW4]; exact B3.out.alloc (by have := B3.out.size; have := HBW.out; omega) _)
          clear hb3 UN O2 B2
          go_upto_region 8 with (fail)
          rw [← hW4]
          clear hW4
          rcases FB.out with ⟨rfl, hcn⟩ | ⟨rfl, hcs⟩
          · have HN : Box (parseM 220 221 S = ([], 220)) := ⟨by rw [PV.out]; exact restM_none HR.out hcn⟩
            clear PV
            go_wp2_with fail
            go_ret2
            unfold ParV
            rw [HN.out]
            exact ⟨HBW.out ▸ B4.out, _, rfl, World.ownsRow_nil _ _ _ _, fun x hx => by cases hx⟩
          · cases g with
            | false =>
              have HN : Box (parseM 220 221 S = ([], 220)) := ⟨by rw [PV.out]; exact restM_bad hcs (lineC_none CU.out (.inr rfl))⟩
              clear PV
              go_wp2_with fail
              go_ret2
              unfold ParV
              rw [HN.out]
              exact ⟨HBW.out ▸ B4.out, _, rfl, World.ownsRow_nil _ _ _ _, fun x hx => by cases hx⟩
            | true =>
              have HN : Box (parseM 220 221 S = ([], 220)) := ⟨by rw [PV.out]; exact restM_bad hcs (lineC_none CU.out (.inl hu))⟩
              clear PV
              go_wp2_with fail
              go_ret2
              unfold ParV
              rw [HN.out]
              exact ⟨HBW.out ▸ B4.out, _, rfl, World.ownsRow_nil _ _ _ _, fun x hx => by cases hx⟩
        | some dl =>
          rw [hu] at UN
          dsimp only at UN
          obtain ⟨x, hx⟩ : ∃ x : SM, x = ⟨n, ⟨dl.toArray⟩⟩ := ⟨_, rfl⟩
          have hxn : x.name = n := by rw [hx]
          have hxs : x.sum = ⟨dl.toArray⟩ := by rw [hx]
          rw [← hxs] at UN
          have hdl : dl.length ≤ d.size := by
            have := congrArg List.length (hex_unhex _ _ hu)
            rw [hexL_len, ba_len] at this; omega
          have HSZ := Box.mk (show x.name.size ≤ maxLen ∧ x.sum.size ≤ maxLen from ⟨by rw [hxn]; unfold maxLen; have := DN.out.2; have := AB.out.1; have := HRS.out.1; omega, by rw [hxs, arr_size]; unfold maxLen; have := DN.out.1; have := AB.out.1; have := HRS.out.1; omega⟩)
          have MA := Box.mk (fun w => may_any x HSZ.out.1 HSZ.out.2 w)
          have XE := Box.mk (show x = ⟨⟨n.data.toList.toArray⟩, ⟨dl.toArray⟩⟩ by rw [hx])
          have HU := Box.mk hu
          rw [← hxn]
          clear hu hdl hx hxs hxn
          go_wp2_with fail
          refine UN.out.mono ?_
          rintro e w3 ⟨rfl, hb3⟩
          have B3 := Box.mk (B2.out.trans (hb3.mono (by have := B2.out.size; have := HBW.out; omega)))
          obtain ⟨W4, hW4⟩ : ∃ W, W = w3.alloc (.cells #[.string x.name, .string x.sum] 33) := ⟨_, rfl⟩
          obtain ⟨ob, hob⟩ : ∃ z, z = w3.heap.size := ⟨_, rfl⟩
          have R4 := Box.mk (show W4.heap[ob]? = some (.cells #[.string x.name, .string x.sum] 33 (0, 0)) by rw [hW4, hob]; exact heap_alloc_new _ _)
          have B4 := Box.mk (show Below B w W4 by rw [hW4]; exact B3.out.alloc (by have := B3.out.size; have := HBW.out; omega) _)
          have O4 := Box.mk (show W4.ownsRow B 33 2 (.slice ao ls.length cap) ls.length (smC ls) by rw [hW4]; exact ownS_alloc (ownS_below O2.out hb3) _)
          clear hb3 UN O2 B2 B3
          go_upto_region 8 with (fail)
          rw [← hW4, ← hob]
          clear hW4 hob
          obtain ⟨z0, z1⟩ := sm_cells R4.out
          rcases FB.out with ⟨rfl, hcn⟩ | ⟨rfl, hcs⟩
          · as_aux_lemma =>
            have HN : Box (parseM 220 221 S = ([], 220)) := ⟨by rw [PV.out]; exact restM_none HR.out hcn⟩
            clear PV
            go_wp2_with fail
            go_ret2
            unfold ParV
            rw [HN.out]
            exact ⟨HBW.out ▸ B4.out, _, rfl, World.ownsRow_nil _ _ _ _, fun x hx => by cases hx⟩
          · cases g with
            | false => as_aux_lemma =>
              have HN : Box (parseM 220 221 S = ([], 220)) := ⟨by rw [PV.out]; exact restM_bad hcs (lineC_none CU.out (.inr rfl))⟩
              clear PV
              go_wp2_with fail
              go_ret2
              unfold ParV
              rw [HN.out]
              exact ⟨HBW.out ▸ B4.out, _, rfl, World.ownsRow_nil _ _ _ _, fun x hx => by cases hx⟩
            | true =>
              have LM := Box.mk (lineC_may CU.out HU.out XE.out)
              cases hmx : x.may with
              | false => as_aux_lemma =>
                rw [hmx] at MA LM
                have LB : lineM a.data.toList = none := by rw [LM.out]; rfl
                have HN : Box (parseM 220 221 S = ([], 220)) := ⟨by rw [PV.out]; exact restM_bad hcs LB⟩
                clear PV
                go_wp2_with fail
                refine (MA.out _).mono ?_
                rintro e w5 ⟨rfl, hb5⟩
                have B5 := Box.mk (B4.out.trans (hb5.mono (by have := B4.out.size; have := HBW.out; omega)))
                clear hb5
                go_wp2_with fail
                go_ret2
                unfold ParV
                rw [HN.out]
                exact ⟨HBW.out ▸ B5.out, _, rfl, World.ownsRow_nil _ _ _ _, fun x hx => by cases hx⟩
              | true => as_aux_lemma =>
                rw [hmx] at MA LM
                have XM := Box.mk ((SM.may_iff x).1 hmx)
                have NX : Box (parseM 220 221 S = restM 220 221 (ls ++ [x]) b.data.toList) := ⟨by rw [PV.out]; exact restM_step hcs (by rw [LM.out]; rfl)⟩
                have HBL := Box.mk (cutL_len hcs)
                clear hcs hmx LM
                go_wp2_with fail
                refine (MA.out _).mono ?_
                rintro e w5 ⟨rfl, hb5⟩
                have B5 := Box.mk (B4.out.trans (hb5.mono (by have := B4.out.size; have := HBW.out; omega)))
                have O5 := Box.mk (ownS_below O4.out hb5)
                have R5 := Box.mk ((hb5.block ob (Array.getElem?_eq_some_iff.1 R4.out).1).trans R4.out)
                clear hb5 z0 z1 O4 B4 R4
                obtain ⟨z0, z1⟩ := sm_cells R5.out
                have hl1 : ls.length + 1 ≤ maxLen := by unfold maxLen; have := H16.out; omega
                have hl2 : (ls.length + 1) * 32 ≤ 140737488355328 := by have := H16.out; omega
                go_wp2_with (at_builtin; refine wpList_append_own _ rfl (.tmp 60) (.tmp 62) 22 rfl B 33 i0 _ 2 32 Try.underlying22 hi0 hz0 hsz0 hby0 rfl (by decide) (.slice ao ls.length cap) ls.length (smC ls) rfl (ownS_alloc O5.out _) ⟨w5.heap.size, 0, none⟩ 1 1 [.string x.name, .string x.sum] rfl rfl (two_cells w5 _ _ _) (fun u hu => by simp at hu; rcases hu with rfl | rfl <;> rfl) hl1 hl2 (by have := B5.out.size; have := HBW.out; simp; omega) ?_; intro v' w6 hown' hgrow hnil)
                obtain ⟨ao', cap', rfl⟩ := own_slice hown'
                have O6 := Box.mk hown'
                have B6 := Box.mk ((B5.out.alloc (by have := B5.out.size; have := HBW.out; omega) (.cells #[.string x.name, .string x.sum] 33)).grown hgrow (by have := B5.out.size; have := HBW.out; simp; omega) (fun k hk => (World.ownsRow.lt (ownS_alloc O5.out (.cells #[.string x.name, .string x.sum] 33)) k hk).1))
                clear hown' hgrow hnil O5 B5 R5 z0 z1
                go_wp2_with fail
                refine ⟨⟨ls ++ [x], b, ao', cap', by rw [List.length_append]; rfl, rfl, NX.out, ?_, by rw [List.length_append]; have := H16.out; simp; omega, by have := AB.out.2; have := HL.out.2; omega, ?_, B6.out⟩, ?_⟩
                · intro y hy
                  rcases List.mem_append.1 hy with hy | hy
                  · exact MAY.out y hy
                  · rw [List.mem_singleton] at hy; subst hy; exact XM.out
                · rw [smC_app, List.length_append]; exact O6.out
                · have := HBL.out; rw [ba_len, ba_len] at this; simpa using this
end Go.Proofs.Ytafhncpaoolljaa
