/- Manifest: the statements' fixed. -/
import Derived.Test.YtafhncpaoolljaaManU
import Derived.Test.YtafhncpaoolljaaManT
import Derived.Test.YtafhncpaoolljaaManR
import Derived.Test.YtafhncpaoolljaaManJ
import Derived.Test.YtafhncpaoolljaaMixW
import Derived.Lib.ConvBytes
namespace Go.Proofs.Ytafhncpaoolljaa
set_option maxRecDepth 100000
set_option linter.unusedVariables false
open Go Go.RowKit

theorem vinfo_u8 : (Try.prog.info? 5).map (fun i => (i.zero, i.size, i.bytes)) = some (some (.int .u8 0), 1, 1) := by kernel_rfl
theorem vmade_one (z : Value) (hz : z.cells = #[z]) (m : Nat) : madeCells z.cells (m * 1) = Array.replicate m z := by
  rw [hz, Nat.mul_one]
  apply Array.ext
  · simp [madeCells]
  · intro i h1 h2
    simp [madeCells, Nat.mod_one]
theorem vmake_bytes (m : Nat) (x : Int) (hx : x = m) (hm : m ≤ 1000000) (L : List UInt8) (hL : L = List.replicate m 0) (w : World) :
    (Instr.makeSlice 37 (.int .i64 x) (.int .i64 x)).run Try.prog w = .ok (.slice (some ⟨w.heap.size, 0, none⟩) m m) (w.alloc (.cells (L.map byv).toArray 5)) := by
  subst hx
  obtain ⟨i0, hi, hz0, hz1, hz2⟩ := info_parts vinfo_u8
  have h := run_make (P := Try.prog) w 37 5 i0 (.int .u8 0) Try.underlying37 hi hz0 .i64 .i64 m m (by omega) (by omega) (by rw [hz2]; omega) (by omega)
  have e : Array.replicate m (Value.int .u8 0) = (L.map byv).toArray := by rw [hL, List.map_replicate, ← List.toArray_replicate]; rfl
  rw [h, hz1, Int.toNat_natCast, vmade_one _ rfl, e]
theorem vbytes_at (w : World) (b cap : Nat) (l : List UInt8) (n : Nat) (hn : l.length = n) (h : w.heap[b]? = some (.cells (l.map byv).toArray 5 (0, 0))) :
    (convert 37 9 (.slice (some ⟨b, 0, none⟩) n cap)).run Try.prog w = .ok (.string ⟨l.toArray⟩) w := by
  subst hn
  have hg : ∀ j u, l[j]? = some u → w.cell? ⟨b, 0 + j, none⟩ = some (.int .u8 (u.toNat : Int)) := fun j u hu => by
    rw [Nat.zero_add, cell_of_row _ _ _ _ _ _ h, List.getElem?_toArray, List.getElem?_map, hu]; rfl
  rw [run_convert_bytes_string w 37 9 5 _ _ _ Try.underlying37 Try.underlying5 Try.underlying9]
  have h := run_loadCells_list (P := Try.prog) (w := w) ⟨b, 0, none⟩ ((l.map fun u => (u.toNat : Int)).map (Value.int .u8)) (by
    intro j v hj
    have : (⟨b, 0, none⟩ : Addr).add j = ⟨b, 0 + j, none⟩ := by unfold Addr.add; split <;> simp_all
    rw [this]
    rw [List.getElem?_map, List.getElem?_map] at hj
    cases hl : l[j]? with
    | none => rw [hl] at hj; simp at hj
    | some u => rw [hl] at hj; simp at hj; subst hj; exact hg j u hl)
  rw [List.length_map, List.length_map] at h
  rw [run_bytesToString w _ _ _ _ h]
  have : ∀ (l : List UInt8) (acc : ByteArray), (l.map fun u => (u.toNat : Int)).foldl (fun r n => r.push (UInt8.ofNat n.toNat)) acc = ⟨(acc.data.toList ++ l).toArray⟩ := by
    intro l
    induction l with
    | nil => intro acc; simp
    | cons c l ih => intro acc; simp only [List.map_cons, List.foldl_cons]; rw [ih]; simp [ByteArray.push]
  rw [this]
  rfl
/-- A slice over a whole literal block of sums. -/
theorem sums_lit {w : World} {g cap : Nat} {cs : Array Value} (l : List SM) (h : w.heap[g]? = some (.cells cs 33 (0, 0))) (hc : cs.toList = smC l) (hl : l.length ≤ maxLen) (hs : ∀ x ∈ l, x.name.size ≤ maxLen ∧ x.sum.size ≤ maxLen) : SumsS w (.slice (some ⟨g, 0, none⟩) l.length cap) l := by
  refine ⟨some ⟨g, 0, none⟩, cap, rfl, hl, hs, fun i x hx => ⟨⟨g, 0, none⟩, rfl, ?_⟩⟩
  obtain ⟨c0, c1⟩ := smC_at l i x hx
  have ea : ∀ k, ((⟨g, 0, none⟩ : Addr).add k) = ⟨g, k, none⟩ := fun k => by unfold Addr.add; split <;> simp_all
  have at_ : ∀ k u, (smC l)[k]? = some u → w.cell? ⟨g, k, none⟩ = some u := fun k u hu => by
    rw [cell_of_row _ _ _ _ _ _ h, ← Array.getElem?_toList, hc]; exact hu
  refine ⟨by rw [ea, Nat.mul_comm]; exact at_ _ _ c0, ?_⟩
  rw [ea]
  show w.cell? ⟨g, i * 2 + 1, none⟩ = _
  rw [Nat.mul_comm]; exact at_ _ _ c1
section
variable {P : Program} {W : World} {S : List Nat} {T : (World → Prop) → List Nat → Act → Prop} {L : List (Oper × Kd)} {F : World → Prop} {N : List Nat} {a : Act} {o : Oper}
theorem gm_build1 {ty e : TypeId} (x : Operand) (ho : o.op = .buildSlice ty 1 #[(0, x)]) (u : Value) (cs : Array Value) (hx : a.eval x = u) (hr : ∀ w, (Instr.buildSlice ty 1 #[(0, u)]).run P w = .ok (.slice (some ⟨w.heap.size, 0, none⟩) 1 1) (w.alloc (.cells cs e))) (hF : Stb F)
    (h : ∀ b, W.heap.size ≤ b → wpG P W S T L (fun w => F w ∧ w.heap[b]? = some (.cells cs e (0, 0))) ([b] ++ N) (a.put o.dst (.slice (some ⟨b, 0, none⟩) 1 1))) : wpG P W S T ((o, .cha) :: L) F N a :=
  gm_val fun w hw hFw => ⟨_, _, by
    subst hx
    unfold execOp
    simp only [ho, Sem.run_bind, List.map_toArray, List.map_cons, List.map_nil, hr, Result.andThen_ok, Sem.run_pure], Gr.alloc _ _, _, [w.heap.size], hF.new _ _, ⟨hF _ _ (Gr.alloc _ _) hFw, heap_alloc_new _ _⟩, fun b hb => by simp at hb; subst hb; simp, h _ hw.size⟩
end
theorem beq_self_l (l : List UInt8) : (l == l) = true := by simp
set_option maxHeartbeats 8000000 in
theorem fixed_any (m : Int) (w : World) (hm : w.cell? ⟨0, 0, none⟩ = some (.int .i64 m)) : Calls Try.prog 11 #[] w fun e w' => e = .returned (.bool true) ∧ Below w.heap.size w w' := by
  obtain ⟨L0, hL0⟩ : ∃ L, L = List.replicate 32 (0 : UInt8) := ⟨_, rfl⟩
  have l0 : L0.length = 32 := by rw [hL0, List.length_replicate]
  obtain ⟨Z, hZ⟩ : ∃ Z : ByteArray, Z = ⟨L0.toArray⟩ := ⟨_, rfl⟩
  obtain ⟨X, hX⟩ : ∃ X, X = x0M := ⟨_, rfl⟩
  have HXN : Box (X.name = ⟨#[97]⟩) := ⟨by rw [hX]; rfl⟩
  have HXS : Box (X.sum = Z) := ⟨by rw [hX, hZ, hL0]; rfl⟩
  have hzz : (Z.toList == Z.toList) = true := beq_self_l _
  have HZS : Box (Z.size ≤ maxLen) := ⟨by rw [hZ]; show L0.toArray.size ≤ _; rw [List.size_toArray, l0]; decide⟩
  have hmk := fun w => vmake_bytes 32 32 rfl (by omega) L0 hL0 w
  have hcv : ∀ wx : World, (convert 37 9 (.slice (some ⟨wx.heap.size, 0, none⟩) 32 32)).run Try.prog (wx.alloc (.cells (L0.map byv).toArray 5)) = .ok (.string Z) (wx.alloc (.cells (L0.map byv).toArray 5)) := fun wx => by
    rw [hZ]; exact vbytes_at _ _ _ L0 32 l0 (heap_alloc_new _ _)
  obtain ⟨S, hS⟩ : ∃ S : ByteArray, S = ⟨(textM [X]).toArray⟩ := ⟨_, rfl⟩
  have hSl : S.data.toList = textM [X] := by rw [hS]
  have hSs : S.size = 68 := by rw [← ba_len, hSl, hX]; exact text_x.1
  have hSe : (S.extract 63 68).toList = [48, 32, 32, 97, 10] := by
    rw [ByteArray.toList_eq, ba_cutL, hSl, hX, text_x.2]; rfl
  have hSb : ((S.extract 63 68).toList == [48, 32, 32, 97, 10]) = true := by rw [hSe]; rfl
  have hx1 : (63 : Int) ≤ 68 := by decide
  have XB : Box (∀ l : List SM, (∀ y ∈ l, y = X) → ∀ y ∈ l, y.name.size ≤ maxLen ∧ y.sum.size ≤ maxLen) := ⟨fun l h y hy => by
    rw [h y hy, HXN.out, HXS.out]; exact ⟨by decide, HZS.out⟩⟩
  have P1 := Box.mk (fun v w h => print_any [X] v w h)
  have e1 : prV [X] = .tuple #[.string S, .int .i64 0] := by rw [hS, hX]; exact prV_x1
  rw [e1] at P1
  have P2 := Box.mk (fun v w h => print_any [X, X] v w h)
  have e2 : prV [X, X] = .tuple #[.string ⟨#[]⟩, .int .i64 221] := by rw [hX]; exact prV_x2
  rw [e2] at P2
  have PA := Box.mk (fun w h => parse_any S m (by rw [hSs]; omega) w h)
  have e3 : parseM 220 221 S.data.toList = ([X], 0) := by rw [hSl, hX]; exact parse_x1
  unfold ParV at PA
  rw [e3] at PA
  have PB := Box.mk (fun w h => parse_any (S ++ S) m (by rw [ByteArray.size_append, hSs]; omega) w h)
  have e4 : parseM 220 221 (S ++ S).data.toList = ([], 221) := by rw [ba_app, hSl, hX]; exact parse_x2
  unfold ParV at PB
  rw [e4] at PB
  have PC := Box.mk (fun w h => parse_any ⟨#[]⟩ m (by decide) w h)
  have e5 : parseM 220 221 (⟨#[]⟩ : ByteArray).data.toList = ([], 220) := parse_x0
  unfold ParV at PC
  rw [e5] at PC
  have F1 := Box.mk (fun v w h => find_any [X] ⟨#[98]⟩ v w h)
  have F2 := Box.mk (fun v w h => find_any [X] ⟨#[97]⟩ v w h)
  have e6 : fndV [X] ⟨#[98]⟩ = .tuple #[.string ⟨#[]⟩, .int .i64 222] := by rw [hX]; exact find_x.1
  have e7 : fndV [X] ⟨#[97]⟩ = .tuple #[.string Z, .int .i64 0] := by rw [← HXS.out, hX]; exact find_x.2
  rw [e6] at F1
  rw [e7] at F2
  have SA := Box.mk (fun v u w h k => same_any [X] [X] v u w h k)
  rw [decide_eq_true rfl] at SA
  obtain ⟨W1, hW1⟩ : ∃ W, W = w.alloc (.cells (L0.map byv).toArray 5) := ⟨_, rfl⟩
  obtain ⟨b1, hb1⟩ : ∃ z, z = w.heap.size + 1 := ⟨_, rfl⟩
  have hs1 : W1.heap.size = b1 := by rw [hW1, hb1]; simp
  obtain ⟨W2, hW2⟩ : ∃ W, W = W1.alloc (.cells #[.string ⟨#[97]⟩, .string Z] 33) := ⟨_, rfl⟩
  have R2 := Box.mk (show W2.heap[b1]? = some (.cells #[.string ⟨#[97]⟩, .string Z] 33 (0, 0)) by rw [hW2, ← hs1]; exact heap_alloc_new _ _)
  have B2 := Box.mk (show Below w.heap.size w W2 by rw [hW2, hW1]; exact ((Below.refl _ _).alloc (Nat.le_refl _) _).alloc (by simp) _)
  have KM := Box.mk (show ∀ wx, Below w.heap.size w wx → wx.cell? ⟨0, 0, none⟩ = some (.int .i64 m) from fun wx h => (h.cell (p := ⟨0, 0, none⟩) (World.block_lt_of_cell? w _ hm)).trans hm)
  have SL := Box.mk (show ∀ (W : World), SumsS (W.alloc (.cells #[.string ⟨#[97]⟩, .string Z] 33)) (.slice (some ⟨W.heap.size, 0, none⟩) 1 1) [X] from fun W => sums_lit [X] (heap_alloc_new _ _) (by unfold smC; rw [List.flatMap_cons, HXN.out, HXS.out]; rfl) (by simp [maxLen]) (XB.out _ (by simp)))
  have SL2 := Box.mk (show ∀ (W : World), SumsS (W.alloc (.cells #[.string ⟨#[97]⟩, .string Z, .string ⟨#[97]⟩, .string Z] 33)) (.slice (some ⟨W.heap.size, 0, none⟩) 2 2) [X, X] from fun W => sums_lit [X, X] (heap_alloc_new _ _) (by unfold smC; rw [List.flatMap_cons, List.flatMap_cons, HXN.out, HXS.out]; rfl) (by simp [maxLen]) (XB.out _ (by simp)))
  have HSS := Box.mk (And.intro hSs (And.intro hSe hSb))
  clear hm hX hSl hSe hSb hS e1 e2 e3 e4 e5 e6 e7 hL0 hZ l0 hSs
  go_enter Try.func11, Try.ntmps11
  go_upto_region 2 with (fail)
  rw [← hW1, ← hW2, ← hb1]
  clear hW1 hW2 hb1 hs1 hmk hcv
  obtain ⟨z0, z1⟩ := sm_cells (x := ⟨⟨#[97]⟩, Z⟩) R2.out
  go_wp2_with fail
  refine (P1.out _ _ (SL.out _)).mono ?_
  rintro e w3 ⟨rfl, hb⟩
  have B3 := Box.mk (B2.out.trans (((Below.refl _ _).alloc (Nat.le_refl _) (.cells #[.string ⟨#[97]⟩, .string Z] 33) |>.trans (hb.mono (by simp))).mono B2.out.size))
  have R3 := Box.mk ((hb.block b1 (by have := (Array.getElem?_eq_some_iff.1 R2.out).1; simp; omega)).trans ((heap_alloc_old _ _ (Array.getElem?_eq_some_iff.1 R2.out).1).trans R2.out))
  clear z0 z1 hb
  obtain ⟨z0, z1⟩ := sm_cells (x := ⟨⟨#[97]⟩, Z⟩) R3.out
  have SX := Box.mk SL2.out
  go_wp2_with fail
  refine (P2.out _ _ (SL2.out _)).mono ?_
  rintro e w4 ⟨rfl, hb⟩
  have B4 := Box.mk (B3.out.trans (((Below.refl _ _).alloc (Nat.le_refl _) (.cells #[.string ⟨#[97]⟩, .string Z, .string ⟨#[97]⟩, .string Z] 33) |>.trans (hb.mono (by simp))).mono B3.out.size))
  have R4 := Box.mk ((hb.block b1 (by have := (Array.getElem?_eq_some_iff.1 R3.out).1; simp; omega)).trans ((heap_alloc_old _ _ (Array.getElem?_eq_some_iff.1 R3.out).1).trans R3.out))
  clear z0 z1 hb P1 P2 B2 R2 B3 R3 SX SL2
  go_wp2_with fail
  refine (PA.out _ (KM.out _ B4.out)).mono ?_
  rintro e w5 ⟨hb, v, rfl, how, _⟩
  have B5 := Box.mk (B4.out.trans (hb.mono B4.out.size))
  have R5 := Box.mk ((hb.block b1 (Array.getElem?_eq_some_iff.1 R4.out).1).trans R4.out)
  have V5 := Box.mk (sums_of_own how (by simp [maxLen]) (XB.out _ (by simp)))
  clear hb how PA R4 B4
  have hSs := HSS.out.1
  go_wp2_with fail
  refine (PB.out _ (KM.out _ B5.out)).mono ?_
  rintro e w6 ⟨hb, v6, rfl, _, _⟩
  have B6 := Box.mk (B5.out.trans (hb.mono B5.out.size))
  have R6 := Box.mk ((hb.block b1 (Array.getElem?_eq_some_iff.1 R5.out).1).trans R5.out)
  have V6 := Box.mk (V5.out.below hb)
  clear hb PB R5 B5 V5
  go_wp2_with fail
  refine (PC.out _ (KM.out _ B6.out)).mono ?_
  rintro e w7 ⟨hb, v7, rfl, _, _⟩
  have B7 := Box.mk (B6.out.trans (hb.mono B6.out.size))
  have R7 := Box.mk ((hb.block b1 (Array.getElem?_eq_some_iff.1 R6.out).1).trans R6.out)
  have V7 := Box.mk (V6.out.below hb)
  clear hb PC R6 B6 V6
  go_wp2_with fail
  refine (F1.out _ _ V7.out).mono ?_
  rintro e w8 ⟨rfl, hb⟩
  have B8 := Box.mk (B7.out.trans (hb.mono B7.out.size))
  have R8 := Box.mk ((hb.block b1 (Array.getElem?_eq_some_iff.1 R7.out).1).trans R7.out)
  have V8 := Box.mk (V7.out.below hb)
  clear hb F1 R7 B7 V7
  go_wp2_with fail
  refine (F2.out _ _ V8.out).mono ?_
  rintro e w9 ⟨rfl, hb⟩
  have B9 := Box.mk (B8.out.trans (hb.mono B8.out.size))
  have R9 := Box.mk ((hb.block b1 (Array.getElem?_eq_some_iff.1 R8.out).1).trans R8.out)
  have V9 := Box.mk (V8.out.below hb)
  clear hb F2 R8 B8 V8
  obtain ⟨z0, z1⟩ := sm_cells (x := ⟨⟨#[97]⟩, Z⟩) R9.out
  have hSb := HSS.out.2.2
  go_wp2_with fail
  refine (SA.out _ _ _ (V9.out.below ((Below.refl _ _).alloc (Nat.le_refl _) _)) (SL.out _)).mono ?_
  rintro e w10 ⟨rfl, hb⟩
  have B10 := Box.mk (B9.out.trans (((Below.refl _ _).alloc (Nat.le_refl _) (.cells #[.string ⟨#[97]⟩, .string Z] 33) |>.trans (hb.mono (by simp))).mono B9.out.size))
  have R10 := Box.mk ((hb.block b1 (by have := (Array.getElem?_eq_some_iff.1 R9.out).1; simp; omega)).trans ((heap_alloc_old _ _ (Array.getElem?_eq_some_iff.1 R9.out).1).trans R9.out))
  clear z0 z1 hb SA V9 B9 R9
  obtain ⟨z0, z1⟩ := sm_cells (x := ⟨⟨#[97]⟩, Z⟩) R10.out
  go_wp2_with fail
  refine (check_empty ⟨#[]⟩ ⟨#[]⟩ _).mono ?_
  rintro e w11 ⟨rfl, rfl⟩
  go_wp2_with fail
  go_ret
  exact ⟨rfl, B10.out⟩
end Go.Proofs.Ytafhncpaoolljaa
