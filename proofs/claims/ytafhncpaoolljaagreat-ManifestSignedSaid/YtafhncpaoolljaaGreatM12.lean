/- SHA-2: the step of a block of words of 64 bits. -/
import Derived.Test.YtafhncpaoolljaaGreatM07
namespace Go.Proofs.YtafhncpaoolljaaGreat
set_option maxRecDepth 100000
set_option linter.unusedVariables false
open Go Go.RowKit Sha
set_option maxRecDepth 100000 in
set_option maxHeartbeats 4000000 in
theorem block64_any (p bi bk kc ic : Nat) (kind : Int) (A B : V8) (rest : ByteArray) (size : Int) (ks l : List Nat) (s : Sh) (w : World) (hA : A.Ok 64) (hs : s.Ok 64) (hl : l.length = 16) (hk : 16 ≤ ks.length ∧ ks.length ≤ 80)
   (hlb : ∀ x ∈ l, x < 2 ^ 64) (hkb : ∀ x ∈ ks, x < 2 ^ 64)
   (h : w.heap[p]? = some (.cells (hc64 kind A B rest size) 115 (0, 0)))
   (hin : ∀ j x, l[j]? = some x → w.cell? ⟨bi, j, none⟩ = some (u64v x)) (hks : ∀ j x, ks[j]? = some x → w.cell? ⟨bk, j, none⟩ = some (u64v x)) :
   Calls Tryz.prog 120 #[.pointer (some ⟨p, 9, none⟩), .slice (some ⟨bi, 0, none⟩) 16 ic, .slice (some ⟨bk, 0, none⟩) ks.length kc, .agg (shl s), .int .i64 64] w fun e w' => e = .returned (.tuple #[]) ∧
     w'.heap[p]? = some (.cells (hc64 kind (blk 64 s (ks.map (· / 2 ^ 0)) A l) B rest size) 115 (0, 0)) ∧ Upd [p] w w' := by
 obtain ⟨n, hn⟩ : ∃ n, n = ks.length := ⟨_, rfl⟩
 rw [← hn] at hk ⊢
 have lp := (Array.getElem?_eq_some_iff.1 h).1
 have hmk := fun w => make_room (P := Tryz.prog) (e := 54) (z := .int .u64 0) (by_ := 8) Tryz.underlying71 (by kernel_rfl) rfl 0 n (by omega) (by omega) (by omega) 0 (n : Int) rfl rfl w
 obtain ⟨i0, hi0, _, hi1, _⟩ := info_parts (show (Tryz.prog.info? 54).map (fun i => (i.zero, i.size, i.bytes)) = some (some (.int .u64 0), 1, 8) from by kernel_rfl)
 obtain ⟨Wb, hWb⟩ : ∃ Wb, Wb = w.alloc (.cells (shl s) 151) := ⟨_, rfl⟩
 have zb : Wb.heap.size = w.heap.size + 1 := by rw [hWb]; simp
 have gb : Wb.heap[w.heap.size]? = some (.cells (shl s) 151 (0, 0)) := by rw [hWb]; exact heap_alloc_new _ _
 have ub : Below w.heap.size w Wb := by rw [hWb]; exact (Below.refl _ _).alloc (Nat.le_refl _) _
 obtain ⟨W0, hW0⟩ : ∃ W0, W0 = Wb.alloc (.cells (List.replicate n (.int .u64 0)).toArray 54) := ⟨_, rfl⟩
 have z0 : W0.heap.size = w.heap.size + 2 := by rw [hW0]; simp [zb]
 have g0 : W0.heap[Wb.heap.size]? = some (.cells (([] : List Value) ++ List.replicate n (Value.int .u64 0)).toArray 54 (0, 0)) := by rw [hW0]; exact heap_alloc_new _ _
 have u0 : Below w.heap.size w W0 := by rw [hW0]; exact ub.alloc (by omega) _
 have hbi : bi < w.heap.size := World.block_lt_of_cell? w _ (hin 0 (l[0]'(by omega)) (List.getElem?_eq_getElem _))
 have happ := append_room (P := Tryz.prog) (t := 71) (ty := 71) (c := ic) (a := ⟨bi, 0, none⟩) (cap := n) (m := 16) (news := l.map u64v) Tryz.underlying71 hi0 hi1 g0 rfl (by simpa using hl) (by
     intro j u hu
     rw [List.getElem?_map] at hu
     cases hj : l[j]? with
     | none => rw [hj] at hu; cases hu
     | some x =>
       rw [hj] at hu; cases hu
       have e : (⟨bi, 0, none⟩ : Addr).add j = ⟨bi, j, none⟩ := by unfold Addr.add; split <;> simp_all
       rw [e, u0.cell (p := ⟨bi, j, none⟩) hbi]; exact hin j x hj) (by
     intro u hu; obtain ⟨x, _, rfl⟩ := List.mem_map.1 hu; rfl) (by simp; omega) (by simp; omega)
 obtain ⟨happ, g1⟩ := happ
 obtain ⟨W1, hW1⟩ : ∃ W1, W1 = W0.setCells Wb.heap.size 0 (l.map u64v) := ⟨_, rfl⟩
 have z1 : W1.heap.size = w.heap.size + 2 := by rw [hW1, size_setCells, z0]
 have u1 : Below w.heap.size w W1 := by rw [hW1]; exact Upd.below u0 (upd_setCells _ _ _ _) (by simp; omega) (by omega)
 have e1 : W1.heap[w.heap.size]? = some (.cells (shl s) 151 (0, 0)) := by
   rw [hW1, (upd_setCells _ _ _ _).block _ (by omega) (by simp; omega), hW0, heap_alloc_old _ _ (by omega)]; exact gb
 simp only [List.length_nil, ← hW1, List.nil_append] at happ g1
 rw [zb] at happ g1
 have G1 := Box.mk g1; have E1 := Box.mk e1; have U1 := Box.mk u1
 clear g1 e1 u1 g0 u0 gb ub
 rw [hW0] at happ
 simp only [hWb] at happ
 unfold shl at happ ⊢
 have HN := Box.mk hn
 clear hW0 hWb hW1 hn
 go_enter Tryz.func120, Tryz.ntmps120
 go_wp2_with (at_builtin; refine wpList_append_run rfl (.tmp 20) (.tmp 21) 71 rfl rfl rfl happ ?_)
 clear happ hmk
 go_loopw [10, 11] (fun sl i wr => ∃ t : Nat, 16 ≤ t ∧ t ≤ n ∧ i = .int .i64 t ∧ sl = .slice (some ⟨w.heap.size + 1, 0, none⟩) t n ∧
   wr.heap[w.heap.size + 1]? = some (.cells ((sched 64 s (t - 16) l).map u64v ++ List.replicate (n - t) (Value.int .u64 0)).toArray 54 (0, 0)) ∧ wr.heap[w.heap.size]? = some (.cells (shl s) 151 (0, 0)) ∧ Below w.heap.size w wr) (fun _ i _ => n - (intOf i).toNat)
 case atStart => exact ⟨16, by omega, by omega, rfl, rfl, by rw [G1.out]; simp [sched], E1.out, U1.out⟩
 case round =>
   clear G1 E1 U1
   obtain ⟨t, ht1, ht2, rfl, rfl, hg, hb, hbel⟩ := hrel
   by_cases hlt : t < n
   · have hL := sched_len 64 s (t - 16) l
     have hLt := sched_lt 64 s (t - 16) l hlb
     have hnx := sched_succ 64 s (t - 16) l
     generalize sched 64 s (t - 16) l = L at hg hL hLt hnx
     have hL' : L.length = t := by omega
     obtain ⟨p2, hp2⟩ : ∃ p, p = t - 2 := ⟨_, rfl⟩
     have y2 := row64_at (t := t) hg (k := p2) (by omega)
     obtain ⟨p7, hp7⟩ : ∃ p, p = t - 7 := ⟨_, rfl⟩
     have y7 := row64_at (t := t) hg (k := p7) (by omega)
     obtain ⟨p15, hp15⟩ : ∃ p, p = t - 15 := ⟨_, rfl⟩
     have y15 := row64_at (t := t) hg (k := p15) (by omega)
     obtain ⟨p16, hp16⟩ : ∃ p, p = t - 16 := ⟨_, rfl⟩
     have y16 := row64_at (t := t) hg (k := p16) (by omega)
     have m2 := getD_lt hLt p2; have m7 := getD_lt hLt p7; have m15 := getD_lt hLt p15; have m16 := getD_lt hLt p16
     have hN : nextW 64 s L = (sml 64 (L.getD p2 0) s.d + L.getD p7 0 + sml 64 (L.getD p15 0) s.c + L.getD p16 0) % 2 ^ 64 := by unfold nextW; rw [hL', ← hp2, ← hp7, ← hp15, ← hp16]
     generalize L.getD p2 0 = x2 at y2 m2 hN
     generalize L.getD p7 0 = x7 at y7 m7 hN
     generalize L.getD p15 0 = x15 at y15 m15 hN
     generalize L.getD p16 0 = x16 at y16 m16 hN
     have v0 := cell_of_row _ _ 6 _ _ _ hb; have v1 := cell_of_row _ _ 7 _ _ _ hb; have v2 := cell_of_row _ _ 8 _ _ _ hb
     have v3 := cell_of_row _ _ 9 _ _ _ hb; have v4 := cell_of_row _ _ 10 _ _ _ hb; have v5 := cell_of_row _ _ 11 _ _ _ hb
     simp [shl] at v0 v1 v2 v3 v4 v5
     have a2 : IntKind.i64.wrap ((t : Int) - 2) = (p2 : Int) := by rw [IntKind.wrap_i64]; omega
     have a7 : IntKind.i64.wrap ((t : Int) - 7) = (p7 : Int) := by rw [IntKind.wrap_i64]; omega
     have a15 : IntKind.i64.wrap ((t : Int) - 15) = (p15 : Int) := by rw [IntKind.wrap_i64]; omega
     have a16 : IntKind.i64.wrap ((t : Int) - 16) = (p16 : Int) := by rw [IntKind.wrap_i64]; omega
     have d2 : (p2 : Int) < (t : Int) := by omega
     have d7 : (p7 : Int) < (t : Int) := by omega
     have d15 : (p15 : Int) < (t : Int) := by omega
     have d16 : (p16 : Int) < (t : Int) := by omega
     have hI : (t : Int) < (n : Int) := by omega
     have yt : wr.cell? ⟨w.heap.size + 1, t, none⟩ = some (.int .u64 0) := by
       rw [cell_of_row _ _ _ _ _ _ hg, List.getElem?_toArray, List.getElem?_append_right (by simp; omega), List.length_map, hL', Nat.sub_self, List.getElem?_replicate, if_pos (by omega)]
     have ft : wr.frozen? ⟨w.heap.size + 1, t, none⟩ = false := frozen_of_row _ _ _ _ _ hg
     have fz : ∀ (w' : World) (c : Array Value) (T : TypeId), (w'.alloc (.cells c T)).frozen? ⟨w.heap.size + 1, t, none⟩ = w'.frozen? ⟨w.heap.size + 1, t, none⟩ := fun w' c T => frozen?_alloc_cells w' c T _
     have ht1n : t + 1 ≤ n := by omega
     have yz : ∀ (D C X : Obj) (k1 k2 : Nat), (((((wr.alloc D).drewN k1).alloc C).drewN k2).alloc X).cell? ⟨w.heap.size + 1, t, none⟩ = some (.int .u64 0) := fun D C X k1 k2 => (World.cell?_of_block (w := wr) (((((((Upd.refl [] wr).alloc D).drewN k1).alloc C).drewN k2).alloc X).block _ (Array.getElem?_eq_some_iff.1 hg).1 (by simp))).trans yt
     have n2 : ¬ p2 = t := by omega
     have o2 : ¬ t = p2 := by omega
     have n7 : ¬ p7 = t := by omega
     have o7 : ¬ t = p7 := by omega
     have n15 : ¬ p15 = t := by omega
     have o15 : ¬ t = p15 := by omega
     have n16 : ¬ p16 = t := by omega
     have o16 : ¬ t = p16 := by omega
     have lg : w.heap.size + 1 < wr.heap.size := (Array.getElem?_eq_some_iff.1 hg).1
     have HG := Box.mk hg; have HB := Box.mk hb; have HBL := Box.mk hbel; have HNX := Box.mk hnx; have HL' := Box.mk hL'; have HN2 := Box.mk hN; have HLT := Box.mk hLt
     have HP := Box.mk (And.intro hp2 (And.intro hp7 (And.intro hp15 hp16)))
     clear hg hb hbel hnx hL' hN hL hLt hp2 hp7 hp15 hp16
     have M1 := mix64_sml x2 s.d m2 hs.d
     have M2 := mix64_sml x15 s.c m15 hs.c
     unfold t3v t3o at M1 M2
     have M1 := Box.mk M1; have M2 := Box.mk M2
     go_wp2_with fail
     go_region_held3 (fun w' => w'.cell? ⟨w.heap.size + 1, p2, none⟩ = some (.int .u64 (x2 : Nat)) ∧ w'.cell? ⟨w.heap.size + 1, p7, none⟩ = some (.int .u64 (x7 : Nat)) ∧ w'.cell? ⟨w.heap.size + 1, p15, none⟩ = some (.int .u64 (x15 : Nat)) ∧ w'.cell? ⟨w.heap.size + 1, p16, none⟩ = some (.int .u64 (x16 : Nat)) ∧
         w'.cell? ⟨w.heap.size, 6, none⟩ = some (.int .i64 s.c.a) ∧ w'.cell? ⟨w.heap.size, 7, none⟩ = some (.int .i64 s.c.b) ∧ w'.cell? ⟨w.heap.size, 8, none⟩ = some (.int .i64 s.c.c) ∧ w'.cell? ⟨w.heap.size, 9, none⟩ = some (.int .i64 s.d.a) ∧ w'.cell? ⟨w.heap.size, 10, none⟩ = some (.int .i64 s.d.b) ∧ w'.cell? ⟨w.heap.size, 11, none⟩ = some (.int .i64 s.d.c))
       (simp [*, World.cell?_alloc_some, World.cell?_setCell_far, World.cell?_setCell_other])
       ((first
         | (go_at_call 138; with_reducible refine (M1.out _).mono ?_; rintro e w' ⟨rfl, k1, rfl⟩)
         | (go_at_call 138; with_reducible refine (M2.out _).mono ?_; rintro e w' ⟨rfl, k2, rfl⟩)))
     go_wp2
     have HU := ((((((Upd.refl [] wr).alloc (.cells #[.int .i64 s.d.a, .int .i64 s.d.b, .int .i64 s.d.c] 139)).drewN (1 + k1)).alloc (.cells #[.int .i64 s.c.a, .int .i64 s.c.b, .int .i64 s.c.c] 139)).drewN k2).alloc (.cells #[.int .u64 (IntKind.u64.wrap (IntKind.u64.wrap (IntKind.u64.wrap ((sml 64 x2 s.d : Nat) + (x7 : Int)) + (sml 64 x15 s.c : Nat)) + (x16 : Int)))] 54))
     have HU2 := (HU.mono (T := [w.heap.size + 1]) (by simp)).setCell (p := ⟨w.heap.size + 1, t, none⟩) (by simp) (.int .u64 (IntKind.u64.wrap (IntKind.u64.wrap (IntKind.u64.wrap ((sml 64 x2 s.d : Nat) + (x7 : Int)) + (sml 64 x15 s.c : Nat)) + (x16 : Int))))
     refine ⟨⟨t + 1, by omega, by omega, by go_num, rfl, ?_, ?_, ?_⟩, by simp [intOf]; omega⟩
     · rw [show t + 1 - 16 = t - 16 + 1 from by omega, HNX.out]
       exact sched64_round HG.out HU HL'.out hlt (sum64_4 _ _ _ _ _ HN2.out)
     · exact (HU2.block _ (by omega) (by simp)).trans HB.out
     · exact Upd.below HBL.out HU2 (by simp) HBL.out.size
   · obtain rfl : n = t := by omega
     have hp := (hbel.block p lp).trans h
     have k1 := cell_of_row _ _ 9 _ _ _ hp; have k2 := cell_of_row _ _ 10 _ _ _ hp; have k3 := cell_of_row _ _ 11 _ _ _ hp; have k4 := cell_of_row _ _ 12 _ _ _ hp
     have k5 := cell_of_row _ _ 13 _ _ _ hp; have k6 := cell_of_row _ _ 14 _ _ _ hp; have k7 := cell_of_row _ _ 15 _ _ _ hp; have k8 := cell_of_row _ _ 16 _ _ _ hp
     simp [hc64, hcells, u64v, u64v] at k1 k2 k3 k4 k5 k6 k7 k8
     have HG := Box.mk hg; have HB := Box.mk hb; have HBL := Box.mk hbel; have HP := Box.mk hp
     clear hg hb hbel hp
     have hLL := sched_len 64 s (n - 16) l
     have hLT := sched_lt 64 s (n - 16) l hlb
     obtain ⟨LL, hLLe⟩ : ∃ LL, LL = sched 64 s (n - 16) l := ⟨_, rfl⟩
     obtain ⟨KS, hKS⟩ : ∃ KS, KS = ks.map (· / 2 ^ 0) := ⟨_, rfl⟩
     rw [← hLLe] at hLL hLT HG
     have hLL2 : LL.length = n := by omega
     have hKL : KS.length = n := by rw [hKS, List.length_map]; exact HN.out.symm
     have HLL := Box.mk hLL2; have HLT2 := Box.mk hLT; have HKS := Box.mk hKS; have HKL := Box.mk hKL; have HLE := Box.mk hLLe; have HA := Box.mk hA
     clear hLL hLT hLLe hKS hLL2 hKL
     go_wp2_with fail
     obtain ⟨wo, rfl⟩ : ∃ wo : World, wo = wr := ⟨_, rfl⟩
     go_loopw [70] (fun i wx => ∃ k : Nat, k ≤ n ∧ i = .int .i64 k ∧ (rnds 64 s (KS.take k) (LL.take k) A).Ok 64 ∧ wx.heap[wo.heap.size]? = some (.cells (v8c64 (rnds 64 s (KS.take k) (LL.take k) A)) 110 (0, 0)) ∧ Upd [] wo wx) (fun i _ => n - (intOf i).toNat)
     case atStart => exact ⟨0, by omega, rfl, by simpa [rnds] using HA.out, by rw [heap_alloc_new]; simp [rnds, v8c64, u64v], (Upd.refl [] wo).alloc _⟩
     case round =>
       obtain ⟨k, hkn, rfl, hok, hv, hu⟩ := hrel
       by_cases hlt : k < n
       · have hstep := rnds_step 64 s KS LL A k (by have := HKL.out; omega) (by have := HLL.out; omega)
         generalize hvv : rnds 64 s (KS.take k) (LL.take k) A = v at hok hv hstep
         have c0 := cell_of_row _ _ 0 _ _ _ hv; have c1 := cell_of_row _ _ 1 _ _ _ hv; have c2 := cell_of_row _ _ 2 _ _ _ hv; have c3 := cell_of_row _ _ 3 _ _ _ hv
         have c4 := cell_of_row _ _ 4 _ _ _ hv; have c5 := cell_of_row _ _ 5 _ _ _ hv; have c6 := cell_of_row _ _ 6 _ _ _ hv; have c7 := cell_of_row _ _ 7 _ _ _ hv
         simp [v8c64, u64v] at c0 c1 c2 c3 c4 c5 c6 c7
         have hsb := (hu.block w.heap.size (by have := HBL.out.size; have := (Array.getElem?_eq_some_iff.1 HB.out).1; omega) (by simp)).trans HB.out
         have s0 := cell_of_row _ _ 0 _ _ _ hsb; have s1 := cell_of_row _ _ 1 _ _ _ hsb; have s2 := cell_of_row _ _ 2 _ _ _ hsb
         have s3 := cell_of_row _ _ 3 _ _ _ hsb; have s4 := cell_of_row _ _ 4 _ _ _ hsb; have s5 := cell_of_row _ _ 5 _ _ _ hsb
         simp [shl] at s0 s1 s2 s3 s4 s5
         have lg1 := (Array.getElem?_eq_some_iff.1 HG.out).1
         have hgx := (hu.block (w.heap.size + 1) lg1 (by simp)).trans HG.out
         have hx := row64_at (t := n) hgx (k := k) (by have := HLL.out; omega)
         have hkx : wr.cell? ⟨bk, k, none⟩ = some (.int .u64 (ks.getD k 0 : Nat)) := by
           have h1 := hks k (ks.getD k 0) (by rw [List.getD_eq_getElem?_getD, List.getElem?_eq_getElem (by have := HN.out; omega)]; rfl)
           have hb := World.block_lt_of_cell? w _ h1
           rw [World.cell?_of_block (w := wo) (a := ⟨bk, k, none⟩) (hu.block bk (by have := HBL.out.size; exact Nat.lt_of_lt_of_le hb this) (by simp)), HBL.out.cell (p := ⟨bk, k, none⟩) hb]; exact h1
         have xb := getD_lt HLT2.out k
         have kb := getD_lt hkb k
         have hkd : KS.getD k 0 = ks.getD k 0 / 1 := by
           rw [HKS.out, List.getD_eq_getElem?_getD, List.getD_eq_getElem?_getD, List.getElem?_map]
           cases ks[k]? <;> rfl
         rw [hkd] at hstep
         generalize LL.getD k 0 = x at hx xb hstep
         generalize ks.getD k 0 = kk at hkx kb hstep
         have HU := Box.mk hu; have HSTEP := Box.mk hstep; have HVV := Box.mk hvv; have HOK := Box.mk hok; have HV := Box.mk hv
         have HSB := Box.mk hsb; clear hu hstep hvv hok hv hsb hgx hkd
         have M1 := mix64_big v.e s.b HOK.out.e hs.b
         have M2 := mix64_big v.a s.a HOK.out.a hs.a
         unfold t3v t3o at M1 M2
         have M1 := Box.mk M1; have M2 := Box.mk M2
         have hI : (k : Int) < (n : Int) := by omega
         have hw32 : IntKind.i64.wrap (64 - 64) = 0 := by rw [IntKind.wrap_i64]; omega
         have hw32' : IntKind.i64.wrap 0 = 0 := by rw [IntKind.wrap_i64]; omega
         go_wp2_with fail
         go_region_held3 (fun w' => w'.cell? ⟨wo.heap.size, 4, none⟩ = some (.int .u64 v.e) ∧ w'.cell? ⟨wo.heap.size, 5, none⟩ = some (.int .u64 v.f) ∧ w'.cell? ⟨wo.heap.size, 6, none⟩ = some (.int .u64 v.g) ∧ w'.cell? ⟨wo.heap.size, 7, none⟩ = some (.int .u64 v.h) ∧
             w'.cell? ⟨w.heap.size, 3, none⟩ = some (.int .i64 s.b.a) ∧ w'.cell? ⟨w.heap.size, 4, none⟩ = some (.int .i64 s.b.b) ∧ w'.cell? ⟨w.heap.size, 5, none⟩ = some (.int .i64 s.b.c) ∧ w'.cell? ⟨bk, k, none⟩ = some (.int .u64 kk))
           (simp [*, World.cell?_alloc_some])
           ((go_at_call 138; with_reducible refine (M1.out _).mono ?_; rintro e w' ⟨rfl, k1, rfl⟩))
         obtain ⟨X1, hX1⟩ : ∃ X : Int, X = IntKind.u64.wrap (IntKind.u64.wrap (IntKind.u64.wrap (IntKind.u64.wrap ((v.h : Int) + (big 64 v.e s.b : Nat)) + bits BinOp.xor IntKind.u64 (bits BinOp.and IntKind.u64 v.e v.f) (bits BinOp.and IntKind.u64 (bits BinOp.xor IntKind.u64 IntKind.u64.max v.e) v.g)) + (kk : Int)) + x) := ⟨_, rfl⟩
         rw [← hX1]
         have HX1 := Box.mk hX1; clear hX1
         obtain ⟨W2, hW2⟩ : ∃ W : World, W = (wr.alloc (.cells #[.int .i64 s.b.a, .int .i64 s.b.b, .int .i64 s.b.c] 139)).drewN (1 + k1) := ⟨_, rfl⟩
         rw [← hW2]
         have hu2 : Upd [] wr W2 := by rw [hW2]; exact ((Upd.refl [] wr).alloc _).drewN _
         have lv := (Array.getElem?_eq_some_iff.1 HV.out).1
         have lb : w.heap.size < wr.heap.size := by have := HU.out.size; omega
         have hv2 := (hu2.block _ lv (by simp)).trans HV.out
         have hb2 := (hu2.block _ lb (by simp)).trans HSB.out
         have hu2' := HU.out.trans hu2
         clear c0 c1 c2 c3 c4 c5 c6 c7 s0 s1 s2 s3 s4 s5 hW2 hu2 hx hkx lb
         have c0 := cell_of_row _ _ 0 _ _ _ hv2; have c1 := cell_of_row _ _ 1 _ _ _ hv2; have c2 := cell_of_row _ _ 2 _ _ _ hv2; have c3 := cell_of_row _ _ 3 _ _ _ hv2
         have c4 := cell_of_row _ _ 4 _ _ _ hv2; have c5 := cell_of_row _ _ 5 _ _ _ hv2; have c6 := cell_of_row _ _ 6 _ _ _ hv2
         simp [v8c64, u64v] at c0 c1 c2 c3 c4 c5 c6
         have s0 := cell_of_row _ _ 0 _ _ _ hb2; have s1 := cell_of_row _ _ 1 _ _ _ hb2; have s2 := cell_of_row _ _ 2 _ _ _ hb2
         simp [shl] at s0 s1 s2
         have HU2 := Box.mk hu2'; have HV2 := Box.mk hv2
         clear hu2' hv2 hb2
         go_wp2_with fail
         go_region_held3 (fun w' => w'.cell? ⟨wo.heap.size, 0, none⟩ = some (.int .u64 v.a) ∧ w'.cell? ⟨wo.heap.size, 1, none⟩ = some (.int .u64 v.b) ∧ w'.cell? ⟨wo.heap.size, 2, none⟩ = some (.int .u64 v.c) ∧
             w'.cell? ⟨w.heap.size, 0, none⟩ = some (.int .i64 s.a.a) ∧ w'.cell? ⟨w.heap.size, 1, none⟩ = some (.int .i64 s.a.b) ∧ w'.cell? ⟨w.heap.size, 2, none⟩ = some (.int .i64 s.a.c))
           (simp [*, World.cell?_alloc_some])
           ((go_at_call 138; with_reducible refine (M2.out _).mono ?_; rintro e w' ⟨rfl, k2, rfl⟩))
         obtain ⟨X2, hX2⟩ : ∃ X : Int, X = IntKind.u64.wrap ((big 64 v.a s.a : Nat) + bits BinOp.xor IntKind.u64 (bits BinOp.xor IntKind.u64 (bits BinOp.and IntKind.u64 v.a v.b) (bits BinOp.and IntKind.u64 v.a v.c)) (bits BinOp.and IntKind.u64 v.b v.c)) := ⟨_, rfl⟩
         rw [← hX2]
         have HX2 := Box.mk hX2; clear hX2
         obtain ⟨W3, hW3⟩ : ∃ W : World, W = (W2.alloc (.cells #[.int .i64 s.a.a, .int .i64 s.a.b, .int .i64 s.a.c] 139)).drewN (1 + k2) := ⟨_, rfl⟩
         rw [← hW3]
         have hu3 : Upd [] W2 W3 := by rw [hW3]; exact ((Upd.refl [] W2).alloc _).drewN _
         have hv3 := (hu3.block _ (Array.getElem?_eq_some_iff.1 HV2.out).1 (by simp)).trans HV2.out
         have hu3' := HU2.out.trans hu3
         clear c0 c1 c2 c3 c4 c5 c6 s0 s1 s2 hW3 hu3
         have c0 := cell_of_row _ _ 0 _ _ _ hv3; have c1 := cell_of_row _ _ 1 _ _ _ hv3; have c2 := cell_of_row _ _ 2 _ _ _ hv3; have c3 := cell_of_row _ _ 3 _ _ _ hv3
         have c4 := cell_of_row _ _ 4 _ _ _ hv3; have c5 := cell_of_row _ _ 5 _ _ _ hv3; have c6 := cell_of_row _ _ 6 _ _ _ hv3
         simp [v8c64, u64v] at c0 c1 c2 c3 c4 c5 c6
         have HU3 := Box.mk hu3'; have HV3 := Box.mk hv3
         clear hu3' hv3
         have hone : (#[.int .u64 (IntKind.u64.wrap (X1 + X2)), .int .u64 v.a, .int .u64 v.b, .int .u64 v.c, .int .u64 (IntKind.u64.wrap (v.d + X1)), .int .u64 v.e, .int .u64 v.f, .int .u64 v.g] : Array Value).all (·.oneCell') = true := by simp [Value.oneCell']
         have HONE := Box.mk hone; clear hone
         go_wp2_with ((with_reducible refine wpList_store_row rfl 110 (.tmp 12) (.tmp 150) rfl wo.heap.size #[.int .u64 (IntKind.u64.wrap (X1 + X2)), .int .u64 v.a, .int .u64 v.b, .int .u64 v.c, .int .u64 (IntKind.u64.wrap (v.d + X1)), .int .u64 v.e, .int .u64 v.f, .int .u64 v.g] ?_ ?_ 110 (v8c64 v) HV3.out ?_ ?_ HONE.out ?_); rfl; rfl; kernel_rfl; rfl)
         refine ⟨⟨k + 1, by omega, by go_num, by rw [HSTEP.out]; exact round_ok _ _ _ _ _ HOK.out, ?_, ?_⟩, by simp [intOf]; omega⟩
         · rw [setRow_heap _ _ _ _ _ _ HV3.out, HSTEP.out, round64_row s v _ x X1 X2 (HX1.out.trans (one64 s v kk x HOK.out kb)) (HX2.out.trans (two64 s v HOK.out))]
         · exact (HU3.out.trans2 (upd_setRow _ _ _) (by simp))
       · obtain rfl : n = k := by omega
         have hend : rnds 64 s (KS.take n) (LL.take n) A = rnds 64 s KS LL A := by rw [List.take_of_length_le (by have := HKL.out; omega), List.take_of_length_le (by have := HLL.out; omega)]
         rw [hend] at hok hv
         have hblk : blk 64 s (ks.map (· / 2 ^ 0)) A l = plus 64 A (rnds 64 s KS LL A) := by unfold blk; rw [← HKS.out, HKL.out, HLE.out, hl]
         have HBLK := Box.mk hblk
         clear hend hblk
         generalize rnds 64 s KS LL A = v at hok hv HBLK
         have hp3 := (hu.block p (by have := HBL.out.size; omega) (by simp)).trans HP.out
         have HV := Box.mk hv; have HU := Box.mk hu; have HOK := Box.mk hok; have HP3 := Box.mk hp3
         clear hu hv hok hp3 k1 k2 k3 k4 k5 k6 k7 k8
         go_wp2_with fail
         obtain ⟨wq, rfl⟩ : ∃ wq : World, wq = wr := ⟨_, rfl⟩
         go_loopw [152] (fun i wx => ∃ k : Nat, k ≤ 8 ∧ i = .int .i64 k ∧ wx.heap[p]? = some (.cells (hc64 kind (mixV 64 k A v) B rest size) 115 (0, 0)) ∧ Upd [p] wq wx) (fun i _ => 8 - (intOf i).toNat)
         case atStart => exact ⟨0, by omega, rfl, HP3.out, Upd.refl _ _⟩
         case round =>
           obtain ⟨k, hk8, rfl, hp, hu⟩ := hrel
           by_cases hlt : k < 8
           · have hkI : (k : Int) < 8 := by omega
             have ca : wr.cell? ⟨p, 9 + k, none⟩ = some (.int .u64 (A.list.getD k 0 : Nat)) := by rw [cell_of_row _ _ _ _ _ _ hp]; exact mix64_cell k hlt _ _ _ _ _ _
             have fa : wr.frozen? ⟨p, 9 + k, none⟩ = false := frozen_of_row _ _ _ _ _ hp
             have lw := (Array.getElem?_eq_some_iff.1 HV.out).1
             have hne : wo.heap.size ≠ p := by have := HBL.out.size; omega
             have cb : wr.cell? ⟨wo.heap.size, k, none⟩ = some (.int .u64 (v.list.getD k 0 : Nat)) := by
               rw [cell_of_row _ _ _ _ _ _ ((hu.block _ lw (by simpa using hne)).trans HV.out)]; exact v8c64_cell k hlt _
             have hset := mix64_set k hlt A v B kind size rest
             have la := list_lt HA.out k; have lv := list_lt HOK.out k
             generalize A.list.getD k 0 = xa at ca hset la
             generalize v.list.getD k 0 = xv at cb hset lv
             have HSET := Box.mk hset; have HUU := Box.mk hu; have HPP := Box.mk hp
             clear hset hu hp
             go_wp2_with fail
             go_region
             go_wp2
             refine ⟨⟨k + 1, by omega, by go_num, ?_, ?_⟩, by simp [intOf]; omega⟩
             · rw [heap_drew, heap_setCell_same _ _ _ _ _ _ HPP.out, HSET.out _ (by first | omega | (rw [IntKind.wrap_u64]; omega))]
             · exact (HUU.out.setCell (by simp) _).drew
           · obtain rfl : k = 8 := by omega
             have HPP := Box.mk hp; have HUU := Box.mk hu
             clear hp hu
             go_wp2
             go_end0
             refine ⟨rfl, ?_, ?_⟩
             · rw [HPP.out, HBLK.out, mixV_all]
             · exact ((Upd.of_below (S := [p]) HBL.out).trans (HU.out.mono (by simp))).trans HUU.out
end Go.Proofs.YtafhncpaoolljaaGreat
