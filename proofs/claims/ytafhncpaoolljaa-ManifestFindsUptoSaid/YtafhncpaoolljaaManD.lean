/- Manifest: slices of sums; which sums may be; Find of both. -/
import Derived.Test.YtafhncpaoolljaaManC
namespace Go.Proofs.Ytafhncpaoolljaa
set_option maxRecDepth 100000
set_option linter.unusedVariables false
open Go Go.RowKit

/-- A sum lies at p. -/
structure SAt (w : World) (p : Addr) (x : SM) : Prop where
  c0 : w.cell? p = some (.string x.name)
  c1 : w.cell? (p.add 1) = some (.string x.sum)
theorem SAt.flat {w : World} {p : Addr} {x : SM} (h : SAt w p x) : w.cell? p = some (.string x.name) ∧ w.cell? ⟨p.block, p.off + 1, none⟩ = some (.string x.sum) := ⟨h.c0, h.c1⟩
theorem SAt.lt {w : World} {p : Addr} {x : SM} (h : SAt w p x) : p.block < w.heap.size := World.block_lt_of_cell? w p h.c0
theorem SAt.below {B : Nat} {w w' : World} {p : Addr} {x : SM} (h : SAt w p x) (hb : Below B w w') (hp : p.block < B) : SAt w' p x := by
  have hq : ∀ j, (p.add j).block = p.block := by intro j; unfold Addr.add; split <;> rfl
  exact ⟨(hb.cell hp).trans h.c0, (hb.cell (by rw [hq]; exact hp)).trans h.c1⟩
/-- The slice sl holds the sums of l. -/
def SumsS (w : World) (sl : Value) (l : List SM) : Prop :=
  ∃ (ao : Option Addr) (cap : Nat), sl = .slice ao l.length cap ∧ l.length ≤ maxLen ∧ (∀ x ∈ l, x.name.size ≤ maxLen ∧ x.sum.size ≤ maxLen) ∧ ∀ i x, l[i]? = some x → ∃ a, ao = some a ∧ SAt w (a.add (i * 2)) x
theorem SumsS.below {w w' : World} {v : Value} {l : List SM} (h : SumsS w v l) (hb : Below w.heap.size w w') : SumsS w' v l := by
  obtain ⟨ao, cap, h1, h2, h3, h4⟩ := h
  refine ⟨ao, cap, h1, h2, h3, fun i x hx => ?_⟩
  obtain ⟨a, ha, hs⟩ := h4 i x hx
  exact ⟨a, ha, hs.below hb hs.lt⟩
def findM (l : List SM) (n : ByteArray) : Option SM := l.find? (fun x => decide (x.name = n))
def fndV (l : List SM) (n : ByteArray) : Value := match findM l n with
  | some x => .tuple #[.string x.sum, .int .i64 0]
  | none => .tuple #[.string ⟨#[]⟩, .int .i64 222]
theorem findM_step {l : List SM} {n : ByteArray} {j : Nat} {x : SM} (hx : l[j]? = some x) : findM (l.drop j) n = if x.name = n then some x else findM (l.drop (j + 1)) n := by
  have hj := (List.getElem?_eq_some_iff.1 hx)
  obtain ⟨hlt, he⟩ := hj
  rw [List.drop_eq_getElem_cons hlt, he]
  unfold findM
  rw [List.find?_cons]
  by_cases h : x.name = n <;> simp [h]
theorem ba_eq (a b : ByteArray) : (a.toList == b.toList) = decide (a = b) := by
  rw [Bool.eq_iff_iff, beq_iff_eq, decide_eq_true_iff, ByteArray.toList_eq, ByteArray.toList_eq]
  constructor
  · intro h; cases a; cases b; simpa using h
  · intro h; rw [h]
theorem sm_cells {w : World} {b : Nat} {x : SM} (h : w.heap[b]? = some (.cells #[.string x.name, .string x.sum] 33 (0, 0))) : w.cell? ⟨b, 0, none⟩ = some (.string x.name) ∧ w.cell? ⟨b, 1, none⟩ = some (.string x.sum) := by
  refine ⟨?_, ?_⟩ <;> (rw [cell_of_row _ _ _ _ _ _ h]; rfl)
set_option maxHeartbeats 2000000 in
theorem find_any (l : List SM) (n : ByteArray) (v : Value) (w : World) (hS : SumsS w v l) : Calls Try.prog 9 #[v, .string n] w fun e w' => e = .returned (fndV l n) ∧ Below w.heap.size w w' := by
  obtain ⟨ao, cap, rfl, hlen, _, hcells⟩ := hS
  unfold maxLen at hlen
  obtain ⟨V, hV⟩ : ∃ V, V = fndV l n := ⟨_, rfl⟩
  rw [← hV]
  have HCELLS := Box.mk hcells; have HV := Box.mk hV
  clear hcells hV
  go_enter Try.func9, Try.ntmps9
  go_wp2_with fail
  go_loopw [10] (fun i wr => ∃ j : Nat, j ≤ l.length ∧ i = .int .i64 (j : Int) ∧ findM l n = findM (l.drop j) n ∧ Below w.heap.size w wr) (fun i _ => l.length - (intOf i).toNat)
  case atStart => exact ⟨0, Nat.zero_le _, rfl, rfl, Below.refl _ _⟩
  case round =>
    obtain ⟨j, hj, rfl, hf, hb⟩ := hrel
    have HF := Box.mk hf; have HB := Box.mk hb
    clear hf hb
    by_cases hlt : j < l.length
    · have hltI : (j : Int) < (l.length : Int) := by omega
      obtain ⟨x, hx⟩ : ∃ s, l[j]? = some s := ⟨_, List.getElem?_eq_getElem hlt⟩
      obtain ⟨a, rfl, HO⟩ := HCELLS.out j x hx
      obtain ⟨q0, q1⟩ := (HO.below HB.out HO.lt).flat
      have ST := Box.mk (findM_step (n := n) hx)
      obtain ⟨wk, hwk⟩ : ∃ wk, wk = wr.alloc (.cells #[.string x.name, .string x.sum] 33) := ⟨_, rfl⟩
      obtain ⟨ob, hob⟩ : ∃ z, z = wr.heap.size := ⟨_, rfl⟩
      have OB : Box (wk.heap[ob]? = some (.cells #[.string x.name, .string x.sum] 33 (0, 0))) := ⟨by rw [hwk, hob]; exact heap_alloc_new _ _⟩
      have BK := Box.mk (show Below w.heap.size w wk by rw [hwk]; exact HB.out.alloc HB.out.size _)
      clear HO hx
      go_upto_region 4 with (fail)
      rw [← hwk, ← hob]
      clear hwk hob q0 q1 HB
      obtain ⟨z0, z1⟩ := sm_cells OB.out
      have BE := ba_eq x.name n
      by_cases he : x.name = n
      · rw [decide_eq_true he] at BE
        have HN : Box (V = .tuple #[.string x.sum, .int .i64 0]) := ⟨by rw [HV.out]; unfold fndV; rw [HF.out, ST.out, if_pos he]⟩
        clear he HV HF ST
        go_wp2_with fail
        go_ret2
        rw [HN.out]
        exact ⟨rfl, BK.out⟩
      · rw [decide_eq_false he] at BE
        have HN : Box (findM l n = findM (l.drop (j + 1)) n) := ⟨by rw [HF.out, ST.out, if_neg he]⟩
        clear he HV HF ST
        go_wp2_with fail
        exact ⟨⟨j + 1, hlt, by go_num, HN.out, BK.out⟩, by simp [intOf]; omega⟩
    · have hltI : ¬ (j : Int) < (l.length : Int) := by omega
      have HN : Box (V = .tuple #[.string ⟨#[]⟩, .int .i64 222]) := ⟨by rw [HV.out]; unfold fndV; rw [HF.out, List.drop_of_length_le (by omega)]; rfl⟩
      clear HV HF
      go_wp2_with fail
      go_ret2
      rw [HN.out]
      exact ⟨rfl, HB.out⟩
set_option maxHeartbeats 2000000 in
theorem rfind_any (l : List SM) (n : ByteArray) (v : Value) (w : World) (hS : SumsS w v l) : Calls Try.prog 10 #[v, .string n] w fun e w' => e = .returned (fndV l n) ∧ w = w' := by
  obtain ⟨ao, cap, rfl, hlen, _, hcells⟩ := hS
  unfold maxLen at hlen
  obtain ⟨V, hV⟩ : ∃ V, V = fndV l n := ⟨_, rfl⟩
  rw [← hV]
  have HCELLS := Box.mk hcells; have HV := Box.mk hV
  clear hcells hV
  go_enter Try.func10, Try.ntmps10
  go_wp2_with fail
  go_loopw [6] (fun i wr => ∃ j : Nat, j ≤ l.length ∧ i = .int .i64 (j : Int) ∧ findM l n = findM (l.drop j) n ∧ w = wr) (fun i _ => l.length - (intOf i).toNat)
  case atStart => exact ⟨0, Nat.zero_le _, rfl, rfl, rfl⟩
  case round =>
    obtain ⟨j, hj, rfl, hf, rfl⟩ := hrel
    have HF := Box.mk hf
    clear hf
    by_cases hlt : j < l.length
    · have hltI : (j : Int) < (l.length : Int) := by omega
      obtain ⟨x, hx⟩ : ∃ s, l[j]? = some s := ⟨_, List.getElem?_eq_getElem hlt⟩
      obtain ⟨a, rfl, HO⟩ := HCELLS.out j x hx
      obtain ⟨q0, q1⟩ := HO.flat
      have ST := Box.mk (findM_step (n := n) hx)
      clear HO hx
      have BE := ba_eq x.name n
      by_cases he : x.name = n
      · rw [decide_eq_true he] at BE
        have HN : Box (V = .tuple #[.string x.sum, .int .i64 0]) := ⟨by rw [HV.out]; unfold fndV; rw [HF.out, ST.out, if_pos he]⟩
        clear he HV HF ST
        go_wp2_with fail
        go_ret2
        rw [HN.out]
        exact ⟨rfl, rfl⟩
      · rw [decide_eq_false he] at BE
        have HN : Box (findM l n = findM (l.drop (j + 1)) n) := ⟨by rw [HF.out, ST.out, if_neg he]⟩
        clear he HV HF ST
        go_wp2_with fail
        exact ⟨⟨j + 1, hlt, by go_num, HN.out, trivial⟩, by simp [intOf]; omega⟩
    · have hltI : ¬ (j : Int) < (l.length : Int) := by omega
      have HN : Box (V = .tuple #[.string ⟨#[]⟩, .int .i64 222]) := ⟨by rw [HV.out]; unfold fndV; rw [HF.out, List.drop_of_length_le (by omega)]; rfl⟩
      clear HV HF
      go_wp2_with fail
      go_ret2
      rw [HN.out]
      exact ⟨rfl, rfl⟩
set_option maxHeartbeats 4000000 in
theorem may_any (x : SM) (hn : x.name.size ≤ maxLen) (hs : x.sum.size ≤ maxLen) (w : World) : Calls Try.prog 15 #[.agg #[.string x.name, .string x.sum]] w fun e w' => e = .returned (.bool x.may) ∧ Below w.heap.size w w' := by
  unfold maxLen at hn hs
  obtain ⟨V, hV⟩ : ∃ V, V = x.may := ⟨_, rfl⟩
  rw [← hV]
  have HV := Box.mk hV
  clear hV
  obtain ⟨WB, hWB⟩ : ∃ W, W = w.alloc (.cells #[.string x.name, .string x.sum] 33) := ⟨_, rfl⟩
  obtain ⟨b0, hb0⟩ : ∃ z, z = w.heap.size := ⟨_, rfl⟩
  have R0 := Box.mk (show WB.heap[b0]? = some (.cells #[.string x.name, .string x.sum] 33 (0, 0)) by rw [hWB, hb0]; exact heap_alloc_new _ _)
  have BW := Box.mk (show Below w.heap.size w WB by rw [hWB]; exact (Below.refl _ _).alloc (Nat.le_refl _) _)
  rw [← hb0] at BW
  go_enter Try.func15, Try.ntmps15
  rw [← hb0]
  go_upto_region 1 with (fail)
  rw [← hWB, ← hb0]
  clear hWB hb0
  obtain ⟨z0, z1⟩ := sm_cells R0.out
  by_cases f1 : x.sum.size = 32
  · have f1I : (((x.sum.size : Nat) : Int) == 32) = true := by rw [beq_iff_eq]; omega
    by_cases f2 : 1 ≤ x.name.size
    · have f2I : (1 : Int) ≤ (x.name.size : Int) := by omega
      by_cases f3 : x.name.size ≤ 100
      · have f3I : (x.name.size : Int) ≤ 100 := by omega
        go_wp2_with fail
        go_loopw [3, 24] (fun o i wr => ∃ j : Nat, j ≤ x.name.size ∧ o = .bool (true && (x.name.data.toList.take j).all nmB) ∧ i = .int .i64 (j : Int) ∧ WB = wr) (fun _ i _ => x.name.size - (intOf i).toNat)
        case atStart => exact ⟨0, Nat.zero_le _, rfl, rfl, rfl⟩
        case round =>
          obtain ⟨j, hj, rfl, rfl, rfl⟩ := hrel
          obtain ⟨o, ho⟩ : ∃ o, o = (true && (x.name.data.toList.take j).all nmB) := ⟨_, rfl⟩
          rw [← ho]
          by_cases hlt : j < x.name.size
          · have hjI : (j : Int) < (x.name.size : Int) := by omega
            obtain ⟨c, hc⟩ : ∃ c, c = x.name[j] := ⟨_, rfl⟩
            have hce : x.name[j] = c := hc.symm
            have NS : Box ((true && (x.name.data.toList.take (j + 1)).all nmB) = (o && nmB c)) := ⟨by rw [take_succ_at x.name j hlt, hce, List.all_append, ho]; simp⟩
            obtain ⟨X, hX⟩ : ∃ X, X = c.toNat := ⟨_, rfl⟩
            have hcX : (c.toNat : Int) = (X : Int) := by rw [hX]
            cases o with
            | false =>
              have NF : Box ((true && (x.name.data.toList.take (j + 1)).all nmB) = false) := ⟨by rw [NS.out]; rfl⟩
              clear hc hX ho NS
              go_wp2_with fail
              exact ⟨⟨j + 1, hlt, by rw [NF.out], by go_num, trivial⟩, by simp [intOf]; omega⟩
            | true =>
              by_cases g1 : 32 < X
              · have g1I : (32 : Int) < (X : Int) := by omega
                by_cases g2 : X < 127
                · have g2I : (X : Int) < 127 := by omega
                  have NF : Box ((true && (x.name.data.toList.take (j + 1)).all nmB) = true) := ⟨by rw [NS.out]; unfold nmB; simp; omega⟩
                  clear hc hX ho NS g1 g2
                  go_wp2_with fail
                  exact ⟨⟨j + 1, hlt, by rw [NF.out], by go_num, trivial⟩, by simp [intOf]; omega⟩
                · have g2I : ¬ (X : Int) < 127 := by omega
                  have NF : Box ((true && (x.name.data.toList.take (j + 1)).all nmB) = false) := ⟨by rw [NS.out]; unfold nmB; simp; omega⟩
                  clear hc hX ho NS g1 g2
                  go_wp2_with fail
                  exact ⟨⟨j + 1, hlt, by rw [NF.out], by go_num, trivial⟩, by simp [intOf]; omega⟩
              · have g1I : ¬ (32 : Int) < (X : Int) := by omega
                have NF : Box ((true && (x.name.data.toList.take (j + 1)).all nmB) = false) := ⟨by rw [NS.out]; unfold nmB; simp; omega⟩
                clear hc hX ho NS g1
                go_wp2_with fail
                exact ⟨⟨j + 1, hlt, by rw [NF.out], by go_num, trivial⟩, by simp [intOf]; omega⟩
          · have hjj : j = x.name.size := by omega
            subst hjj
            have HN : Box (V = o) := ⟨by rw [HV.out, ho, take_all]; unfold SM.may; simp [f1, f2, f3]⟩
            have hjI : ¬ (x.name.size : Int) < (x.name.size : Int) := by omega
            clear ho hlt
            go_wp2_with fail
            go_ret
            rw [HN.out]
            exact ⟨rfl, BW.out⟩
      · have f3I : ¬ (x.name.size : Int) ≤ 100 := by omega
        go_wp2_with fail
        go_loopw [3, 24] (fun o i wr => ∃ j : Nat, j ≤ x.name.size ∧ o = .bool (false && (x.name.data.toList.take j).all nmB) ∧ i = .int .i64 (j : Int) ∧ WB = wr) (fun _ i _ => x.name.size - (intOf i).toNat)
        case atStart => exact ⟨0, Nat.zero_le _, rfl, rfl, rfl⟩
        case round =>
          obtain ⟨j, hj, rfl, rfl, rfl⟩ := hrel
          obtain ⟨o, ho⟩ : ∃ o, o = (false && (x.name.data.toList.take j).all nmB) := ⟨_, rfl⟩
          rw [← ho]
          by_cases hlt : j < x.name.size
          · have hjI : (j : Int) < (x.name.size : Int) := by omega
            obtain ⟨c, hc⟩ : ∃ c, c = x.name[j] := ⟨_, rfl⟩
            have hce : x.name[j] = c := hc.symm
            have NS : Box ((false && (x.name.data.toList.take (j + 1)).all nmB) = (o && nmB c)) := ⟨by rw [take_succ_at x.name j hlt, hce, List.all_append, ho]; simp⟩
            obtain ⟨X, hX⟩ : ∃ X, X = c.toNat := ⟨_, rfl⟩
            have hcX : (c.toNat : Int) = (X : Int) := by rw [hX]
            cases o with
            | false =>
              have NF : Box ((false && (x.name.data.toList.take (j + 1)).all nmB) = false) := ⟨by rw [NS.out]; rfl⟩
              clear hc hX ho NS
              go_wp2_with fail
              exact ⟨⟨j + 1, hlt, by rw [NF.out], by go_num, trivial⟩, by simp [intOf]; omega⟩
            | true => exact absurd ho (by simp)
          · have hjj : j = x.name.size := by omega
            subst hjj
            have HN : Box (V = o) := ⟨by rw [HV.out, ho, take_all]; unfold SM.may; simp [f1, f2, f3]⟩
            have hjI : ¬ (x.name.size : Int) < (x.name.size : Int) := by omega
            clear ho hlt
            go_wp2_with fail
            go_ret
            rw [HN.out]
            exact ⟨rfl, BW.out⟩
    · have f2I : ¬ (1 : Int) ≤ (x.name.size : Int) := by omega
      go_wp2_with fail
      go_loopw [3, 24] (fun o i wr => ∃ j : Nat, j ≤ x.name.size ∧ o = .bool (false && (x.name.data.toList.take j).all nmB) ∧ i = .int .i64 (j : Int) ∧ WB = wr) (fun _ i _ => x.name.size - (intOf i).toNat)
      case atStart => exact ⟨0, Nat.zero_le _, rfl, rfl, rfl⟩
      case round =>
        obtain ⟨j, hj, rfl, rfl, rfl⟩ := hrel
        obtain ⟨o, ho⟩ : ∃ o, o = (false && (x.name.data.toList.take j).all nmB) := ⟨_, rfl⟩
        rw [← ho]
        by_cases hlt : j < x.name.size
        · have hjI : (j : Int) < (x.name.size : Int) := by omega
          obtain ⟨c, hc⟩ : ∃ c, c = x.name[j] := ⟨_, rfl⟩
          have hce : x.name[j] = c := hc.symm
          have NS : Box ((false && (x.name.data.toList.take (j + 1)).all nmB) = (o && nmB c)) := ⟨by rw [take_succ_at x.name j hlt, hce, List.all_append, ho]; simp⟩
          obtain ⟨X, hX⟩ : ∃ X, X = c.toNat := ⟨_, rfl⟩
          have hcX : (c.toNat : Int) = (X : Int) := by rw [hX]
          cases o with
          | false =>
            have NF : Box ((false && (x.name.data.toList.take (j + 1)).all nmB) = false) := ⟨by rw [NS.out]; rfl⟩
            clear hc hX ho NS
            go_wp2_with fail
            exact ⟨⟨j + 1, hlt, by rw [NF.out], by go_num, trivial⟩, by simp [intOf]; omega⟩
          | true => exact absurd ho (by simp)
        · have hjj : j = x.name.size := by omega
          subst hjj
          have HN : Box (V = o) := ⟨by rw [HV.out, ho, take_all]; unfold SM.may; simp [f1, f2]⟩
          have hjI : ¬ (x.name.size : Int) < (x.name.size : Int) := by omega
          clear ho hlt
          go_wp2_with fail
          go_ret
          rw [HN.out]
          exact ⟨rfl, BW.out⟩
  · have f1I : (((x.sum.size : Nat) : Int) == 32) = false := by rw [beq_eq_false_iff_ne]; omega
    go_wp2_with fail
    go_loopw [3, 24] (fun o i wr => ∃ j : Nat, j ≤ x.name.size ∧ o = .bool (false && (x.name.data.toList.take j).all nmB) ∧ i = .int .i64 (j : Int) ∧ WB = wr) (fun _ i _ => x.name.size - (intOf i).toNat)
    case atStart => exact ⟨0, Nat.zero_le _, rfl, rfl, rfl⟩
    case round =>
      obtain ⟨j, hj, rfl, rfl, rfl⟩ := hrel
      obtain ⟨o, ho⟩ : ∃ o, o = (false && (x.name.data.toList.take j).all nmB) := ⟨_, rfl⟩
      rw [← ho]
      by_cases hlt : j < x.name.size
      · have hjI : (j : Int) < (x.name.size : Int) := by omega
        obtain ⟨c, hc⟩ : ∃ c, c = x.name[j] := ⟨_, rfl⟩
        have hce : x.name[j] = c := hc.symm
        have NS : Box ((false && (x.name.data.toList.take (j + 1)).all nmB) = (o && nmB c)) := ⟨by rw [take_succ_at x.name j hlt, hce, List.all_append, ho]; simp⟩
        obtain ⟨X, hX⟩ : ∃ X, X = c.toNat := ⟨_, rfl⟩
        have hcX : (c.toNat : Int) = (X : Int) := by rw [hX]
        cases o with
        | false =>
          have NF : Box ((false && (x.name.data.toList.take (j + 1)).all nmB) = false) := ⟨by rw [NS.out]; rfl⟩
          clear hc hX ho NS
          go_wp2_with fail
          exact ⟨⟨j + 1, hlt, by rw [NF.out], by go_num, trivial⟩, by simp [intOf]; omega⟩
        | true => exact absurd ho (by simp)
      · have hjj : j = x.name.size := by omega
        subst hjj
        have HN : Box (V = o) := ⟨by rw [HV.out, ho, take_all]; unfold SM.may; simp [f1]⟩
        have hjI : ¬ (x.name.size : Int) < (x.name.size : Int) := by omega
        clear ho hlt
        go_wp2_with fail
        go_ret
        rw [HN.out]
        exact ⟨rfl, BW.out⟩
end Go.Proofs.Ytafhncpaoolljaa
