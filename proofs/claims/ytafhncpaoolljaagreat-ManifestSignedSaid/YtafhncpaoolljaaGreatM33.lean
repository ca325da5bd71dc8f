/- The package curve: its calls. The package curve: strings as points; the law's fixed calls. The order of the base is prime. The curve, plainly: how many points there are at most; each of them eight times, and that as many times as the order, is the zero. The document's answer on scalars: digits of base 256; L; less. The document's answer on scalars: Mod. -/
import Derived.Test.YtafhncpaoolljaaGreatM31
import Derived.Test.YtafhncpaoolljaaGreatM32
import Derived.Deep.MidRow
import Derived.Test.YtafhncpaoolljaaGreatM26
import Derived.Test.YtafhncpaoolljaaGreatM30
import Derived.Test.YtafhncpaoolljaaGreatM13
import Derived.Test.YtafhncpaoolljaaGreatRows
import Derived.Deep.RegionLawGrows
import Derived.Deep.DeepCutAuto
namespace Go.Proofs.YtafhncpaoolljaaGreat.Fe
set_option maxRecDepth 100000
set_option linter.unusedVariables false
open Go Go.RowKit
theorem parse_at (s : ByteArray) (w : World) : Calls Tryz.prog 28 #[.string s] w fun e w' => ∃ x y z t ok, e = .returned (.tuple #[.agg (pcell x y z t), .bool ok]) ∧ ((ok = true ∧ ∃ p, encP p = s ∧ PR x y z t p) ∨ (ok = false ∧ NoP s)) ∧ Gr w w' :=
 (parse_any s w).mono fun _ _ ⟨h, hg⟩ => by
   rcases h with ⟨p, x, y, z, t, he, hp, hr⟩ | ⟨he, hn⟩
   · exact ⟨x, y, z, t, true, he, .inl ⟨rfl, p, hp, hr⟩, hg⟩
   · exact ⟨f0, f0, f0, f0, false, he, .inr ⟨rfl, hn⟩, hg⟩
theorem base_row : (⟨#[88]⟩ ++ ⟨(Lib.repeatL (⟨#[102]⟩ : ByteArray).data.toList 31).toArray⟩ : ByteArray) = encP CP.base := by
 have e : encP CP.base = sbytes bY := by
   have e1 : (fv bY).val = bY := by rw [fv_val, bY_eq, fp_eq]
   have e2 : (fv bX).val % 2 = 0 := by rw [fv_val, bX_eq, fp_eq]
   unfold encP; show sbytes ((fv bY).val + 2 ^ 255 * ((fv bX).val % 2)) = _; rw [e1, e2]; rfl
 rw [e, bY_eq]; exact bytes_ext (by decide +kernel)
section
variable {P : Program} {W : World} {S : List Nat} {T : (World → Prop) → List Nat → Act → Prop} {L : List (Oper × Kd)} {F : World → Prop} {N : List Nat} {a : Act} {o : Oper}
theorem gm_make {fn : Fn} (fs : List Operand) (ho : o.op = .makeFunc fn fs.toArray #[]) (vs : List Value) (hv : fs.map a.eval = vs)
   (h : wpG P W S T L F N (a.put o.dst (.func fn vs.toArray #[]))) : wpG P W S T ((o, .flo) :: L) F N a :=
 gm_flo _ (fun w _ => by
   subst hv
   unfold execOp
   simp only [ho, Sem.run_bind, List.map_toArray, Instr.makeFunc]
   rfl) h
end
set_option maxRecDepth 100000 in
set_option maxHeartbeats 4000000 in
theorem is_any (s : ByteArray) (w : World) : Calls Tryz.prog 34 #[.string s] w fun e w' => ∃ ok, e = .returned (.bool ok) ∧ ((ok = true ∧ ∃ p, encP p = s) ∨ (ok = false ∧ NoP s)) ∧ Gr w w' := by
 have B0 := Box.mk (Gr.refl w)
 go_enter Tryz.func34, Tryz.ntmps34
 go_upto_region 1 with (fail)
 try go_frame
 refine wp_region_seq 6 [.flo, .cha, .flo, .flo, .flo, .new (.cells (pcell f0 f0 f0 f0) 58)] (by rfl) rfl (by decide) ?_
 simp only [List.take, List.zip, List.zipWith]
 refine gm_move (.tmp 0) (.inl rfl) (.string s) rfl ?_
 try go_frame
 refine gm_call [.string s] (by kernel_rfl) rfl rfl Stb.tt (fun w1 hw1 _ => (parse_at s w1).mono ?_)
 rintro e w2 ⟨xA, yA, zA, tA, okA, rfl, hp, hw2⟩
 refine ⟨_, rfl, hw2, ?_⟩
 try go_frame
 have OKA := Box.mk hp
 clear hp
 refine gm_move (.tmp 7) (.inl rfl) (.tuple #[.agg (pcell xA yA zA tA), .bool okA]) rfl ?_
 try go_frame
 refine gm_extract (vs := #[.agg (pcell xA yA zA tA), .bool okA]) (.tmp 5) 0 rfl rfl (.agg (pcell xA yA zA tA)) rfl ?_
 try go_frame
 refine gm_extract (vs := #[.agg (pcell xA yA zA tA), .bool okA]) (.tmp 5) 1 rfl rfl (.bool okA) rfl ?_
 try go_frame
 refine gm_alloc rfl (.cells (pcell f0 f0 f0 f0) 58) (fun _ => by kernel_rfl) (fun bA hbA _ => ?_)
 try go_frame
 refine gm_nil ?_
 intro w7 hw7 hF7
 simp only [List.drop]
 try go_frame
 have HN0 := Box.mk (show w7.heap[bA]? = some (.cells (pcell f0 f0 f0 f0) 58 (0, 0)) from hF7.2)
 obtain ⟨W1, hWn⟩ : ∃ W, W = w7.setRow bA (pcell xA yA zA tA) := ⟨_, rfl⟩
 have NBA := Box.mk (show w.heap.size ≤ bA from Nat.le_trans B0.out.size hbA)
 go_upto_region 2 with ((with_reducible refine wpList_storeP rfl (.tmp 3) (.tmp 8) rfl bA xA yA zA tA (pcell f0 f0 f0 f0) rfl HN0.out ?_ ?_ ?_); rfl; rfl)
 try go_frame
 rw [← hWn]
 have hgn : Gr w W1 := by rw [hWn]; exact hw7.setRow hbA _
 skip
 have GA := Box.mk (show W1.heap[bA]? = some (.cells (pcell xA yA zA tA) 58 (0, 0)) from by rw [hWn]; exact setRow_heap _ _ _ _ _ _ HN0.out)
 replace B0 := Box.mk (B0.out.trans hgn)
 clear hWn hgn hF7 hw7 HN0 hbA
 go_wp2_with fail
 go_ret
 exact ⟨okA, rfl, OKA.out.imp (fun ⟨h, p, hp, _⟩ => ⟨h, p, hp⟩) id, B0.out⟩
set_option maxRecDepth 100000 in
set_option maxHeartbeats 4000000 in
theorem add_any' (s r : ByteArray) (w : World) : Calls Tryz.prog 36 #[.string s, .string r] w fun e w' => ((∃ p q, encP p = s ∧ encP q = r ∧ e = .returned (.tuple #[.string (encP (p.add q)), .int .i64 0])) ∨ ((NoP s ∨ NoP r) ∧ e = .returned (.tuple #[.string ⟨#[]⟩, .int .i64 60]))) ∧ Gr w w' := by
 have B0 := Box.mk (Gr.refl w)
 go_enter Tryz.func36, Tryz.ntmps36
 go_upto_region 1 with (fail)
 try go_frame
 refine wp_region_seq 6 [.flo, .cha, .flo, .flo, .flo, .new (.cells (pcell f0 f0 f0 f0) 58)] (by rfl) rfl (by decide) ?_
 simp only [List.take, List.zip, List.zipWith]
 refine gm_move (.tmp 0) (.inl rfl) (.string s) rfl ?_
 try go_frame
 refine gm_call [.string s] (by kernel_rfl) rfl rfl Stb.tt (fun w1 hw1 _ => (parse_at s w1).mono ?_)
 rintro e w2 ⟨xA, yA, zA, tA, okA, rfl, hp, hw2⟩
 refine ⟨_, rfl, hw2, ?_⟩
 try go_frame
 have OKA := Box.mk hp
 clear hp
 refine gm_move (.tmp 12) (.inl rfl) (.tuple #[.agg (pcell xA yA zA tA), .bool okA]) rfl ?_
 try go_frame
 refine gm_extract (vs := #[.agg (pcell xA yA zA tA), .bool okA]) (.tmp 10) 0 rfl rfl (.agg (pcell xA yA zA tA)) rfl ?_
 try go_frame
 refine gm_extract (vs := #[.agg (pcell xA yA zA tA), .bool okA]) (.tmp 10) 1 rfl rfl (.bool okA) rfl ?_
 try go_frame
 refine gm_alloc rfl (.cells (pcell f0 f0 f0 f0) 58) (fun _ => by kernel_rfl) (fun bA hbA _ => ?_)
 try go_frame
 refine gm_nil ?_
 intro w7 hw7 hF7
 simp only [List.drop]
 try go_frame
 have HN0 := Box.mk (show w7.heap[bA]? = some (.cells (pcell f0 f0 f0 f0) 58 (0, 0)) from hF7.2)
 obtain ⟨W1, hWn⟩ : ∃ W, W = w7.setRow bA (pcell xA yA zA tA) := ⟨_, rfl⟩
 have NBA := Box.mk (show w.heap.size ≤ bA from Nat.le_trans B0.out.size hbA)
 go_upto_region 2 with ((with_reducible refine wpList_storeP rfl (.tmp 6) (.tmp 13) rfl bA xA yA zA tA (pcell f0 f0 f0 f0) rfl HN0.out ?_ ?_ ?_); rfl; rfl)
 try go_frame
 rw [← hWn]
 have hgn : Gr w W1 := by rw [hWn]; exact hw7.setRow hbA _
 skip
 have GA := Box.mk (show W1.heap[bA]? = some (.cells (pcell xA yA zA tA) 58 (0, 0)) from by rw [hWn]; exact setRow_heap _ _ _ _ _ _ HN0.out)
 replace B0 := Box.mk (B0.out.trans hgn)
 clear hWn hgn hF7 hw7 HN0 hbA
 refine wp_region_seq 6 [.flo, .cha, .flo, .flo, .flo, .new (.cells (pcell f0 f0 f0 f0) 58)] (by rfl) rfl (by decide) ?_
 simp only [List.take, List.zip, List.zipWith]
 refine gm_move (.tmp 1) (.inl rfl) (.string r) rfl ?_
 try go_frame
 refine gm_call [.string r] (by kernel_rfl) rfl rfl Stb.tt (fun w1 hw1 _ => (parse_at r w1).mono ?_)
 rintro e w2 ⟨xB, yB, zB, tB, okB, rfl, hp, hw2⟩
 refine ⟨_, rfl, hw2, ?_⟩
 try go_frame
 have OKB := Box.mk hp
 clear hp
 refine gm_move (.tmp 17) (.inl rfl) (.tuple #[.agg (pcell xB yB zB tB), .bool okB]) rfl ?_
 try go_frame
 refine gm_extract (vs := #[.agg (pcell xB yB zB tB), .bool okB]) (.tmp 15) 0 rfl rfl (.agg (pcell xB yB zB tB)) rfl ?_
 try go_frame
 refine gm_extract (vs := #[.agg (pcell xB yB zB tB), .bool okB]) (.tmp 15) 1 rfl rfl (.bool okB) rfl ?_
 try go_frame
 refine gm_alloc rfl (.cells (pcell f0 f0 f0 f0) 58) (fun _ => by kernel_rfl) (fun bB hbB _ => ?_)
 try go_frame
 refine gm_nil ?_
 intro w7 hw7 hF7
 simp only [List.drop]
 try go_frame
 have HN0 := Box.mk (show w7.heap[bB]? = some (.cells (pcell f0 f0 f0 f0) 58 (0, 0)) from hF7.2)
 obtain ⟨W2, hWn⟩ : ∃ W, W = w7.setRow bB (pcell xB yB zB tB) := ⟨_, rfl⟩
 have NBB := Box.mk (show w.heap.size ≤ bB from Nat.le_trans B0.out.size hbB)
 go_upto_region 3 with ((with_reducible refine wpList_storeP rfl (.tmp 8) (.tmp 18) rfl bB xB yB zB tB (pcell f0 f0 f0 f0) rfl HN0.out ?_ ?_ ?_); rfl; rfl)
 try go_frame
 rw [← hWn]
 have hgn : Gr W1 W2 := by rw [hWn]; exact hw7.setRow hbB _
 replace GA := Box.mk (hgn.block GA.out)
 have GB := Box.mk (show W2.heap[bB]? = some (.cells (pcell xB yB zB tB) 58 (0, 0)) from by rw [hWn]; exact setRow_heap _ _ _ _ _ _ HN0.out)
 replace B0 := Box.mk (B0.out.trans hgn)
 clear hWn hgn hF7 hw7 HN0 hbB
 rcases OKA.out with ⟨rfl, p, hp, hpr⟩ | ⟨rfl, hn⟩
 · have PA := Box.mk hpr; have HPA := Box.mk hp
   clear hp hpr OKA
   rcases OKB.out with ⟨rfl, q, hq, hqr⟩ | ⟨rfl, hn⟩
   · have PB := Box.mk hqr; have HPB := Box.mk hq
     clear hq hqr OKB
     go_upto_region 5 with (fail)
     try go_frame
     refine wp_region_seq 4 [.flo, .flo, .cha, .cha] (by rfl) rfl (by decide) ?_
     simp only [List.take, List.zip, List.zipWith]
     refine gm_loadP (.tmp 6) rfl bA xA yA zA tA GA.out rfl ?_
     try go_frame
     refine gm_loadP (.tmp 8) rfl bB xB yB zB tB GB.out rfl ?_
     try go_frame
     refine gm_call [.agg (pcell xA yA zA tA), .agg (pcell xB yB zB tB)] (by kernel_rfl) rfl rfl Stb.tt (fun w1 hw1 _ => (padd_any PA.out PB.out w1).mono ?_)
     rintro e w2 ⟨x, y, z, t, rfl, hpr, hw2⟩
     refine ⟨_, rfl, hw2, ?_⟩
     try go_frame
     have PS := Box.mk hpr
     clear hpr
     refine gm_call [.agg (pcell x y z t)] (by kernel_rfl) rfl rfl Stb.tt (fun w1 hw1 _ => (bytes_pt PS.out w1).mono ?_)
     rintro e w2 ⟨rfl, hw2⟩
     refine ⟨_, rfl, hw2, ?_⟩
     try go_frame
     refine gm_nil ?_
     intro w7 hw7 _
     simp only [List.drop]
     try go_frame
     replace B0 := Box.mk (B0.out.trans hw7)
     clear hw7
     go_wp2_with fail
     go_ret2
     exact ⟨.inl ⟨p, q, HPA.out, HPB.out, rfl⟩, B0.out⟩
   · have HN := Box.mk hn
     clear hn OKB
     go_wp2_with fail
     go_ret2
     exact ⟨.inr ⟨.inr HN.out, rfl⟩, B0.out⟩
 · have HN := Box.mk hn
   clear hn OKA
   go_wp2_with fail
   go_ret2
   exact ⟨.inr ⟨.inl HN.out, rfl⟩, B0.out⟩
set_option maxRecDepth 100000 in
set_option maxHeartbeats 4000000 in
theorem base_at (w : World) : Calls Tryz.prog 15 #[] w fun e w' => e = .returned (.string (encP CP.base)) ∧ Gr w w' := by
 have B0 := Box.mk (Gr.refl w)
 go_enter Tryz.func15, Tryz.ntmps15
 go_upto_region 1 with (fail)
 try go_frame
 refine wp_region_seq 2 [.cha, .flo] (by rfl) rfl (by decide) ?_
 simp only [List.take, List.zip, List.zipWith]
 refine gm_call [.string ⟨#[102]⟩, .int .i64 31] (by kernel_rfl) rfl rfl Stb.tt (fun w1 hw1 _ => ((fun v => Tryz.strings_Repeat ⟨#[102]⟩ 31 v (by omega) (by decide)) w1).mono ?_)
 rintro e w2 ⟨rfl, hw2⟩
 refine ⟨_, rfl, Gr.of hw2, ?_⟩
 try go_frame
 refine gm_bin (.const (.string ⟨#[88]⟩)) (.tmp 1) rfl (.string (encP CP.base)) (fun _ _ => rfl) (fun w' => ?_) ?_
 · rw [← base_row]; exact run_string_add_sum _ ⟨#[88]⟩ ⟨(Lib.repeatL (⟨#[102]⟩ : ByteArray).data.toList 31).toArray⟩ (by decide)
 try go_frame
 refine gm_nil ?_
 intro w7 hw7 _
 simp only [List.drop]
 try go_frame
 replace B0 := Box.mk (B0.out.trans hw7)
 clear hw7
 go_wp2_with fail
 go_ret
 exact ⟨rfl, B0.out⟩
set_option maxRecDepth 100000 in
set_option maxHeartbeats 4000000 in
theorem mul_any' (k s : ByteArray) (w : World) : Calls Tryz.prog 14 #[.string k, .string s] w fun e w' => ((∃ p, encP p = s ∧ k.size = 32 ∧ e = .returned (.tuple #[.string (encP (p.mul (num k))), .int .i64 0])) ∨ ((NoP s ∨ k.size ≠ 32) ∧ e = .returned (.tuple #[.string ⟨#[]⟩, .int .i64 60]))) ∧ Gr w w' := by
 have B0 := Box.mk (Gr.refl w)
 go_enter Tryz.func14, Tryz.ntmps14
 go_upto_region 1 with (fail)
 try go_frame
 refine wp_region_seq 6 [.flo, .cha, .flo, .flo, .flo, .new (.cells (pcell f0 f0 f0 f0) 58)] (by rfl) rfl (by decide) ?_
 simp only [List.take, List.zip, List.zipWith]
 refine gm_move (.tmp 1) (.inl rfl) (.string s) rfl ?_
 try go_frame
 refine gm_call [.string s] (by kernel_rfl) rfl rfl Stb.tt (fun w1 hw1 _ => (parse_at s w1).mono ?_)
 rintro e w2 ⟨xA, yA, zA, tA, okA, rfl, hp, hw2⟩
 refine ⟨_, rfl, hw2, ?_⟩
 try go_frame
 have OKA := Box.mk hp
 clear hp
 refine gm_move (.tmp 10) (.inl rfl) (.tuple #[.agg (pcell xA yA zA tA), .bool okA]) rfl ?_
 try go_frame
 refine gm_extract (vs := #[.agg (pcell xA yA zA tA), .bool okA]) (.tmp 8) 0 rfl rfl (.agg (pcell xA yA zA tA)) rfl ?_
 try go_frame
 refine gm_extract (vs := #[.agg (pcell xA yA zA tA), .bool okA]) (.tmp 8) 1 rfl rfl (.bool okA) rfl ?_
 try go_frame
 refine gm_alloc rfl (.cells (pcell f0 f0 f0 f0) 58) (fun _ => by kernel_rfl) (fun bA hbA _ => ?_)
 try go_frame
 refine gm_nil ?_
 intro w7 hw7 hF7
 simp only [List.drop]
 try go_frame
 have HN0 := Box.mk (show w7.heap[bA]? = some (.cells (pcell f0 f0 f0 f0) 58 (0, 0)) from hF7.2)
 obtain ⟨W1, hWn⟩ : ∃ W, W = w7.setRow bA (pcell xA yA zA tA) := ⟨_, rfl⟩
 have NBA := Box.mk (show w.heap.size ≤ bA from Nat.le_trans B0.out.size hbA)
 go_upto_region 2 with ((with_reducible refine wpList_storeP rfl (.tmp 6) (.tmp 11) rfl bA xA yA zA tA (pcell f0 f0 f0 f0) rfl HN0.out ?_ ?_ ?_); rfl; rfl)
 try go_frame
 rw [← hWn]
 have hgn : Gr w W1 := by rw [hWn]; exact hw7.setRow hbA _
 skip
 have GA := Box.mk (show W1.heap[bA]? = some (.cells (pcell xA yA zA tA) 58 (0, 0)) from by rw [hWn]; exact setRow_heap _ _ _ _ _ _ HN0.out)
 replace B0 := Box.mk (B0.out.trans hgn)
 clear hWn hgn hF7 hw7 HN0 hbA
 rcases OKA.out with ⟨rfl, p, hp, hpr⟩ | ⟨rfl, hn⟩
 · have PA := Box.mk hpr; have HPA := Box.mk hp
   clear hp hpr OKA
   by_cases hk : k.size = 32
   · have hkI : (k.size : Int) = 32 := by omega
     have HK := Box.mk hk
     clear hk
     go_upto_region 4 with (fail)
     try go_frame
     refine wp_region_mix 6 [.flo, .cha, .flo, .flo, .cha, .cha] (by kernel_rfl) (by kernel_rfl) rfl ?_
     simp only [List.take, List.zip, List.zipWith]
     refine gm_move (.tmp 0) (.inl rfl) (.string k) rfl ?_
     try go_frame
     refine gm_call [] (by kernel_rfl) rfl rfl Stb.tt (fun w1 hw1 _ => (zero_any w1).mono ?_)
     rintro e w2 ⟨rfl, hw2⟩
     refine ⟨_, rfl, hw2, ?_⟩
     try go_frame
     refine gm_make [.tmp 21] rfl [.agg (pcell f0 (smF 1) (smF 1) f0)] rfl ?_
     try go_frame
     refine gm_loadP (.tmp 6) rfl bA xA yA zA tA GA.out rfl ?_
     try go_frame
     refine gm_call [.string k, .func (.func 31) #[.agg (pcell f0 (smF 1) (smF 1) f0)] #[], .agg (pcell xA yA zA tA)] (by kernel_rfl) rfl rfl Stb.tt (fun w1 hw1 _ => (times_pt PR.zero PA.out k HK.out w1).mono ?_)
     rintro e w2 ⟨x, y, z, t, rfl, hpr, hw2⟩
     refine ⟨_, rfl, hw2, ?_⟩
     try go_frame
     have PS := Box.mk (show PR x y z t (p.mul (num k)) from by rwa [CP.zero_add] at hpr)
     clear hpr
     refine gm_call [.agg (pcell x y z t)] (by kernel_rfl) rfl rfl Stb.tt (fun w1 hw1 _ => (bytes_pt PS.out w1).mono ?_)
     rintro e w2 ⟨rfl, hw2⟩
     refine ⟨_, rfl, hw2, ?_⟩
     try go_frame
     refine gm_nil ?_
     intro w7 hw7 _
     simp only [List.drop]
     try go_frame
     replace B0 := Box.mk (B0.out.trans (Gr.trans (show Gr W1 W1.drew from (Below.refl _ _).drew) hw7))
     clear hw7 hkI
     go_wp2_with fail
     go_ret2
     exact ⟨.inl ⟨p, HPA.out, HK.out, rfl⟩, B0.out⟩
   · have hk' : ((k.size : Int) == 32) = false := by rw [beq_eq_false_iff_ne]; omega
     have HK := Box.mk hk
     clear hk
     go_wp2_with fail
     go_ret2
     exact ⟨.inr ⟨.inr HK.out, rfl⟩, B0.out⟩
 · have HN := Box.mk hn
   clear hn OKA
   go_wp2_with fail
   go_ret2
   exact ⟨.inr ⟨.inl HN.out, rfl⟩, B0.out⟩
open Go Go.RowKit
structure Pt (t : ByteArray) (p : CP) : Prop where
 eq : t = encP p
theorem Pt.of {s : ByteArray} {p : CP} (h : encP p = s) : Pt s p := ⟨h.symm⟩
theorem Pt.same {s t : ByteArray} {p q : CP} (hs : Pt s p) (ht : Pt t q) (h : p = q) : (s.toList == t.toList) = true := by
 rw [beq_toList, hs.eq, ht.eq, h]; simp
theorem Pt.other {s t : ByteArray} {p q : CP} (hs : Pt s p) (ht : Pt t q) (h : p ≠ q) : (s.toList == t.toList) = false := by
 rw [beq_toList]; refine decide_eq_false fun e => h (encP_inj ?_)
 rw [← hs.eq, ← ht.eq, e]
theorem Pt.size {s : ByteArray} {p : CP} (h : Pt s p) : s.size = 32 := by rw [h.eq]; exact encP_size p
theorem pt_or (s : ByteArray) : (∃ p, Pt s p) ∨ NoP s := by
 by_cases h : ∃ p, encP p = s
 · exact .inl (h.elim fun p hp => ⟨p, Pt.of hp⟩)
 · exact .inr fun p hp => h ⟨p, hp⟩
theorem Pt.num {s : ByteArray} {p : CP} (h : Pt s p) : NoP s → False := fun hn => hn p h.eq.symm
section
variable {a b k m : ByteArray} {p q : CP}
theorem cis (h : Pt a p) (w : World) : Calls Tryz.prog 34 #[.string a] w fun e w' => e = .returned (.bool true) ∧ Gr w w' :=
 (is_any a w).mono fun _ _ ⟨ok, he, ho, hg⟩ => by
   rcases ho with ⟨rfl, _⟩ | ⟨_, hn⟩
   · exact ⟨he, hg⟩
   · exact (h.num hn).elim
theorem cis_no (h : NoP a) (w : World) : Calls Tryz.prog 34 #[.string a] w fun e w' => e = .returned (.bool false) ∧ Gr w w' :=
 (is_any a w).mono fun _ _ ⟨ok, he, ho, hg⟩ => by
   rcases ho with ⟨_, p, hp⟩ | ⟨rfl, _⟩
   · exact (h p hp).elim
   · exact ⟨he, hg⟩
theorem cadd (h : Pt a p) (h2 : Pt b q) (w : World) : Calls Tryz.prog 36 #[.string a, .string b] w fun e w' => ∃ t, Box (Pt t (p.add q)) ∧ e = .returned (.tuple #[.string t, .int .i64 0]) ∧ Gr w w' :=
 (add_any' a b w).mono fun _ _ ⟨ho, hg⟩ => by
   rcases ho with ⟨p', q', hp, hq, he⟩ | ⟨hn | hn, _⟩
   · obtain rfl : p' = p := encP_inj (hp.trans h.eq)
     obtain rfl : q' = q := encP_inj (hq.trans h2.eq)
     exact ⟨_, ⟨⟨rfl⟩⟩, he, hg⟩
   · exact (h.num hn).elim
   · exact (h2.num hn).elim
theorem cmul (h : Pt a p) (hk : k.size = 32) (w : World) : Calls Tryz.prog 14 #[.string k, .string a] w fun e w' => ∃ t, Box (Pt t (p.mul (Go.Proofs.YtafhncpaoolljaaGreat.num k))) ∧ e = .returned (.tuple #[.string t, .int .i64 0]) ∧ Gr w w' :=
 (mul_any' k a w).mono fun _ _ ⟨ho, hg⟩ => by
   rcases ho with ⟨p', hp, _, he⟩ | ⟨hn | hn, _⟩
   · obtain rfl : p' = p := encP_inj (hp.trans h.eq)
     exact ⟨_, ⟨⟨rfl⟩⟩, he, hg⟩
   · exact (h.num hn).elim
   · exact absurd hk hn
theorem cbase (w : World) : Calls Tryz.prog 15 #[] w fun e w' => ∃ t, Box (Pt t CP.base) ∧ e = .returned (.string t) ∧ Gr w w' :=
 (base_at w).mono fun _ _ ⟨he, hg⟩ => ⟨_, ⟨⟨rfl⟩⟩, he, hg⟩
end
section
variable {P : Program} {W : World} {S : List Nat} {T : (World → Prop) → List Nat → Act → Prop} {L : List (Oper × Kd)} {F : World → Prop} {N : List Nat} {a : Act} {o : Oper}
end
end Go.Proofs.YtafhncpaoolljaaGreat.Fe
namespace Go.Proofs.YtafhncpaoolljaaGreat.Num
set_option maxRecDepth 100000
set_option linter.unusedVariables false
end Go.Proofs.YtafhncpaoolljaaGreat.Num
namespace Go.Proofs.YtafhncpaoolljaaGreat.Fe
set_option maxRecDepth 100000
set_option linter.unusedVariables false
open Go Go.RowKit
theorem base_mod (n : Nat) : CP.base.mul (n % oL) = CP.base.mul n := by
 have h1 : CP.base.mul n = (CP.base.mul (oL * (n / oL))).add (CP.base.mul (n % oL)) := by rw [← CP.mul_add, Nat.div_add_mod]
 rw [h1, CP.mul_mul, base_order, CP.zero_mul, CP.zero_add]
@[irreducible] def tX : Nat := 14399317868200118260347934320527232580618823971194345261214217575416788799818
@[irreducible] def tY : Nat := 55188659117513257062467267217118295137698188065244968500265048394206261417927
end Go.Proofs.YtafhncpaoolljaaGreat.Fe
namespace Go.Proofs.YtafhncpaoolljaaGreat
set_option maxRecDepth 100000
set_option linter.unusedVariables false
open Go Go.RowKit
@[irreducible] def digit (n i : Nat) : Int := ((n / 256 ^ i % 256 : Nat) : Int)
theorem digit_bd (n i : Nat) : 0 ≤ digit n i ∧ digit n i < 256 := by unfold digit; omega
theorem digit_eq (n i : Nat) : digit n i = ((n / 256 ^ i % 256 : Nat) : Int) := by unfold digit; rfl
def dcells (n c : Nat) : Array Value := ((List.range c).map fun j => Value.int .i64 (digit n j)).toArray
theorem dcells_get (n c j : Nat) (h : j < c) : (dcells n c)[j]? = some (.int .i64 (digit n j)) := by simp [dcells, h]
theorem digit_add (D i v j : Nat) (hD : D < 256 ^ i) (hv : v < 256) : digit (D + 256 ^ i * v) j = if j = i then (v : Int) else digit D j := by
 unfold digit
 split
 · rename_i h; subst h
   rw [Nat.add_mul_div_left _ _ (Nat.pow_pos (by omega)), Nat.div_eq_of_lt hD]; omega
 · rename_i h
   congr 1
   rcases Nat.lt_or_gt_of_ne h with h | h
   · obtain ⟨d, hd⟩ : ∃ d, i = j + (1 + d) := ⟨i - j - 1, by omega⟩
     rw [hd, Nat.pow_add, Nat.pow_add, Nat.pow_one, Nat.mul_assoc, Nat.mul_assoc, Nat.add_mul_div_left _ _ (Nat.pow_pos (by omega))]
     omega
   · have hle : 256 ^ i * 256 ≤ 256 ^ j := by rw [← Nat.pow_succ]; exact Nat.pow_le_pow_right (by omega) (by omega)
     have h1 : 256 ^ i * (v + 1) ≤ 256 ^ i * 256 := Nat.mul_le_mul (Nat.le_refl _) (by omega)
     rw [Nat.mul_add] at h1
     rw [Nat.div_eq_of_lt (by omega), Nat.div_eq_of_lt (by omega)]
theorem dcells_step (D c i v : Nat) (hD : D < 256 ^ i) (hv : v < 256) : (dcells D c).setIfInBounds i (.int .i64 (v : Int)) = dcells (D + 256 ^ i * v) c := by
 apply Array.ext
 · simp [dcells]
 · intro j h1 h2
   rw [Array.getElem_setIfInBounds (by simpa using h1)]
   simp only [dcells, List.getElem_toArray, List.getElem_map, List.getElem_range]
   rw [digit_add D i v j hD hv]
   split
   · rename_i h; subst h; simp
   · rename_i h; rw [if_neg (by omega)]
theorem digit_mod (N k : Nat) : N % 256 ^ (k + 1) = N % 256 ^ k + 256 ^ k * (N / 256 ^ k % 256) := by
 rw [Nat.pow_succ, Nat.mod_mul]
def DRow (w : World) (b c n : Nat) : Prop := ∀ j, j < c → w.cell? ⟨b, j, none⟩ = some (.int .i64 (digit n j))
theorem DRow.of {w : World} {b c n : Nat} {t : TypeId} (h : w.heap[b]? = some (.cells (dcells n c) t (0, 0))) : DRow w b c n := fun j hj => by
 rw [cell_of_row _ _ _ _ _ _ h]; exact dcells_get _ _ _ hj
theorem DRow.lt {w : World} {b c n : Nat} (h : DRow w b c n) (hc : 0 < c) : b < w.heap.size := World.block_lt_of_cell? w _ (h 0 hc)
theorem DRow.below {w w' : World} {B b c n : Nat} (h : DRow w b c n) (hb : Below B w w') (hB : b < B) : DRow w' b c n := fun j hj => by
 rw [hb.cell (p := ⟨b, j, none⟩) hB]; exact h j hj
set_option maxRecDepth 100000 in
set_option maxHeartbeats 400000 in
theorem refL_any (w : World) : Calls Tryz.prog 108 #[] w fun e w' => ∃ b, w.heap.size ≤ b ∧ e = .returned (.slice (some ⟨b, 0, none⟩) 32 32) ∧ DRow w' b 32 ordL ∧ Below w.heap.size w w' := by
 go_enter Tryz.func108, Tryz.ntmps108
 go_wp2
 go_returns
 refine ⟨w.heap.size, Nat.le_refl _, rfl, ?_, by go_grown⟩
 refine DRow.of (t := 3) ?_
 rw [heap_alloc_new]
 congr 2
 simp [dcells, digit, ordL, List.range, List.range.loop]
theorem less_step {X Y D u v u' i : Nat} (hD : D + Y % 256 ^ i = X % 256 ^ i + u * 256 ^ i) (hDl : D < 256 ^ i) 
   (hv : (v : Int) = digit X i - u - digit Y i + 256 * u') (hvl : v < 256) :
   D + 256 ^ i * v + Y % 256 ^ (i + 1) = X % 256 ^ (i + 1) + u' * 256 ^ (i + 1) ∧ D + 256 ^ i * v < 256 ^ (i + 1) := by
 rw [digit_mod, digit_mod]
 rw [digit_eq, digit_eq] at hv
 generalize X / 256 ^ i % 256 = x at hv ⊢
 generalize Y / 256 ^ i % 256 = y at hv ⊢
 generalize X % 256 ^ i = xl at hD ⊢
 generalize Y % 256 ^ i = yl at hD ⊢
 rw [Nat.pow_succ]
 generalize 256 ^ i = K at hD hDl ⊢
 have h1 : K * (v + u + y) = K * (x + 256 * u') := by congr 1; omega
 simp only [Nat.mul_add] at h1
 have e1 : u' * (K * 256) = K * (256 * u') := by rw [Nat.mul_comm K 256, ← Nat.mul_assoc, Nat.mul_comm u' 256, Nat.mul_comm (256 * u') K]
 have h2 : K * (v + 1) ≤ K * 256 := Nat.mul_le_mul (Nat.le_refl _) (by omega)
 rw [Nat.mul_add] at h2
 rw [Nat.mul_comm u K] at hD
 rw [e1]
 refine ⟨by omega, by omega⟩
structure LessSt (w : World) (g P o X Y i u : Nat) (wr : World) : Prop where
 x : DRow wr g 33 X
 y : DRow wr P 32 Y
 o : ∃ D, wr.heap[o]? = some (.cells (dcells D 33) 3 (0, 0)) ∧ D + Y % 256 ^ i = X % 256 ^ i + u * 256 ^ i ∧ D < 256 ^ i
 u : u ≤ 1
 below : Below w.heap.size w wr
theorem LessSt.step {w wr : World} {g P X Y k q D u' : Nat} {e : Int} (hx : DRow wr g 33 X) (hy : DRow wr P 32 Y) (ho : wr.heap[w.heap.size]? = some (.cells (dcells D 33) 3 (0, 0)))
   (hD : D + Y % 256 ^ k = X % 256 ^ k + q * 256 ^ k) (hDl : D < 256 ^ k) (hbel : Below w.heap.size w wr) (hg : g < w.heap.size) (hP : P < w.heap.size)
   (hu : u' ≤ 1) (he : 0 ≤ e ∧ e < 256) (hv : e = digit X k - q - digit Y k + 256 * u') : LessSt w g P w.heap.size X Y (k + 1) u' (wr.setCell ⟨w.heap.size, k, none⟩ (.int .i64 e)) := by
 obtain ⟨v, rfl⟩ := Int.eq_ofNat_of_zero_le he.1
 obtain ⟨h1, h2⟩ := less_step hD hDl hv (by omega)
 have hb2 : Below w.heap.size wr (wr.setCell ⟨w.heap.size, k, none⟩ (.int .i64 (v : Int))) := Below.setCell (p := ⟨w.heap.size, k, none⟩) (Below.refl _ _) (Nat.le_refl _) _
 exact ⟨hx.below hb2 hg, hy.below hb2 hP, ⟨_, by rw [heap_setCell_same _ _ _ _ _ _ ho, dcells_step _ _ _ _ hDl (by omega)], h1, h2⟩, hu, hbel.setCell (Nat.le_refl _) _⟩
set_option maxRecDepth 100000 in
set_option maxHeartbeats 1000000 in
theorem refLess_any (X Y g P cap1 : Nat) (w : World) (hX : DRow w g 33 X) (hY : DRow w P 32 Y) (hYl : Y < 256 ^ 32) (_hcap : 33 ≤ cap1) :
   Calls Tryz.prog 109 #[.slice (some ⟨g, 0, none⟩) 33 cap1, .slice (some ⟨P, 0, none⟩) 32 32] w fun e w' => ∃ b D, w.heap.size ≤ b ∧ e = .returned (.tuple #[.slice (some ⟨b, 0, none⟩) 33 33, .bool (decide (Y ≤ X % 256 ^ 33))]) ∧ DRow w' b 33 D ∧ (Y ≤ X % 256 ^ 33 → D = X % 256 ^ 33 - Y) ∧ Below w.heap.size w w' := by
 have hg := hX.lt (by omega)
 have hP := hY.lt (by omega)
 have hmk : ∀ w, (Instr.makeSlice 100 (.int .i64 33) (.int .i64 33)).run Tryz.prog w = .ok (.slice (some ⟨w.heap.size, 0, none⟩) 33 33) (w.alloc (.cells (dcells 0 33) 3)) := fun _ => by kernel_rfl
 have hst : LessSt w g P w.heap.size X Y 0 0 (w.alloc (.cells (dcells 0 33) 3)) :=
   ⟨hX.below ((Below.refl _ _).alloc (Nat.le_refl _) _) hg, hY.below ((Below.refl _ _).alloc (Nat.le_refl _) _) hP, ⟨0, by rw [heap_alloc_new], by simp [Nat.mod_one], by simp⟩, by omega, (Below.refl _ _).alloc (Nat.le_refl _) _⟩
 have HS := Box.mk hst; clear hst
 have HX := Box.mk hX; clear hX
 have HY := Box.mk hY; clear hY
 have HYL := Box.mk hYl; clear hYl
 go_enter Tryz.func109, Tryz.ntmps109
 go_wp2
 go_loopw [7, 8] (fun u i wr => ∃ k q : Nat, k ≤ 33 ∧ i = .int .i64 k ∧ u = .int .i64 q ∧ LessSt w g P w.heap.size X Y k q wr) (fun _ i _ => 33 - (intOf i).toNat)
 case atStart => exact ⟨0, 0, by omega, rfl, rfl, HS.out⟩
 case round =>
   clear HS
   obtain ⟨k, q, hk, rfl, rfl, hs⟩ := hrel
   obtain ⟨hx, hy, ⟨D, ho, hD, hDl⟩, hq, hbel⟩ := hs
   by_cases hlt : k < 33
   · have c1 := hx k hlt
     have c3 : wr.cell? ⟨w.heap.size, k, none⟩ = some (.int .i64 (digit D k)) := by rw [cell_of_row _ _ _ _ _ _ ho]; exact dcells_get _ _ _ hlt
     have f3 : wr.frozen? ⟨w.heap.size, k, none⟩ = false := frozen_of_row _ _ _ _ _ ho
     have bx := digit_bd X k; have b2 := digit_bd Y k
     have HST := Box.mk (fun (e : Int) (u' : Nat) hu he hv => LessSt.step (e := e) (u' := u') hx hy ho hD hDl hbel hg hP hu he hv)
     clear ho hD hDl hbel hx
     by_cases h32 : k < 32
     · have c2 := hy k h32
       clear hy
       go_wp2
       all_goals go_roundw
       case rel => exact ⟨k + 1, 1, by omega, by go_num, rfl, HST.out _ 1 (by omega) (by omega) (by omega)⟩
       case measure => simp [intOf]; omega
       case rel => exact ⟨k + 1, 0, by omega, by go_num, rfl, HST.out _ 0 (by omega) (by omega) (by omega)⟩
       case measure => simp [intOf]; omega
     · have h0 : digit Y k = 0 := by
         have : k = 32 := by omega
         subst this
         rw [digit_eq, Nat.div_eq_of_lt HYL.out]; rfl
       have H0 := Box.mk h0; clear h0 hy
       go_wp2
       all_goals go_roundw
       case rel => exact ⟨k + 1, 1, by omega, by go_num, rfl, HST.out _ 1 (by omega) (by omega) (by rw [H0.out]; omega)⟩
       case measure => simp [intOf]; omega
       case rel => exact ⟨k + 1, 0, by omega, by go_num, rfl, HST.out _ 0 (by omega) (by omega) (by rw [H0.out]; omega)⟩
       case measure => simp [intOf]; omega
   · have hk3 : k = 33 := by omega
     subst hk3
     have HO := Box.mk ho; clear ho
     have HD := Box.mk hD; clear hD
     have HDL := Box.mk hDl; clear hDl hx hy
     go_wp2
     go_ret2
     refine ⟨w.heap.size, D, Nat.le_refl _, ?_, DRow.of HO.out, ?_, hbel⟩
     · have h := HD.out
       have hl := HDL.out
       rw [Nat.mod_eq_of_lt (a := Y) (Nat.lt_trans HYL.out (Nat.pow_lt_pow_right (by omega) (by omega)))] at h
       have e : (((q : Int) == 0)) = decide (Y ≤ X % 256 ^ 33) := by
         rw [Bool.eq_iff_iff, beq_iff_eq, decide_eq_true_iff]; omega
       rw [← e]; rfl
     · intro hle
       have h := HD.out
       have hl := HDL.out
       rw [Nat.mod_eq_of_lt (a := Y) (Nat.lt_trans HYL.out (Nat.pow_lt_pow_right (by omega) (by omega)))] at h
       omega
open Go Go.RowKit
theorem info_int : (Tryz.prog.info? 3).map (fun i => (i.zero, i.size, i.bytes)) = some (some (.int .i64 0), 1, 8) := by kernel_rfl
theorem addr_add (b t : Nat) : (⟨b, 0, none⟩ : Addr).add t = ⟨b, t, none⟩ := by unfold Addr.add; split <;> simp_all
def In256 (N c : Nat) : Prop := N < 256 ^ c
structure RmSt (w : World) (b c N P g cap r : Nat) (wr : World) : Prop where
 da : DRow wr b c N
 dl : DRow wr P 32 ordL
 dr : DRow wr g 33 r
 hcap : 33 ≤ cap
 rl : r < ordL
 hP : P < wr.heap.size
 below : Below w.heap.size w wr
theorem RmSt.grow {w wr w2 : World} {b c N P g cap r : Nat} (h : RmSt w b c N P g cap r wr) (hb : b < w.heap.size) (h2 : Below wr.heap.size wr w2) : RmSt w b c N P g cap r w2 :=
 ⟨h.da.below h2 (Nat.lt_of_lt_of_le hb h.below.size), h.dl.below h2 h.hP, h.dr.below h2 (h.dr.lt (by omega)), h.hcap, h.rl, Nat.lt_of_lt_of_le h.hP h2.size, h.below.trans (h2.mono h.below.size)⟩
theorem owned_row {w : World} {base n : Nat} {e : TypeId} {v : Value} {xs : List Value} (h : w.ownsRow base e 1 v n xs) (hn : 0 < n) :
   ∃ g cap, v = .slice (some ⟨g, 0, none⟩) n cap ∧ base ≤ g ∧ n ≤ cap ∧ (∀ j u, xs[j]? = some u → w.cell? ⟨g, j, none⟩ = some u) := by
 have hc := fun g hg => h.cells (g := g) hg
 rcases h.2 with ⟨rfl, rfl⟩ | ⟨g, cap, cur, rfl, hbg, _, hnc, _⟩
 · omega
 · refine ⟨g, cap, rfl, hbg, hnc, fun j u hu => ?_⟩
   have := hc g rfl j u hu
   rwa [addr_add] at this
theorem digit_cons (r d : Nat) (hd : d < 256) (j : Nat) : digit (r * 256 + d) j = if j = 0 then (d : Int) else digit r (j - 1) := by
 unfold digit
 rcases j with _ | j
 · simp; omega
 · simp only [Nat.add_one_ne_zero, if_false, Nat.add_sub_cancel]
   rw [Nat.pow_succ, Nat.mul_comm (256 ^ j), ← Nat.div_div_eq_div_mul, show (r * 256 + d) / 256 = r from by omega]
theorem ref_step (N j V k : Nat) (hV : V + k * ordL = N / 256 ^ (j + 1) % ordL * 256 + N / 256 ^ j % 256) (hl : V < ordL) : N / 256 ^ j % ordL = V := by
 have e : N / 256 ^ (j + 1) = N / 256 ^ j / 256 := by rw [Nat.pow_succ, Nat.div_div_eq_div_mul]
 rw [e] at hV
 generalize N / 256 ^ j = x at hV ⊢
 have h1 : (x / 256 % ordL * 256 + x % 256) % ordL = x % ordL := by
   rw [Nat.add_mod, Nat.mod_mul_mod, ← Nat.add_mod]; congr 1; omega
 rw [← h1, ← hV, Nat.add_mul_mod_self_right, Nat.mod_eq_of_lt hl]
set_option maxRecDepth 100000 in
set_option maxHeartbeats 1000000 in
theorem refMod_any (N c b cap0 : Nat) (w : World) (hN : In256 N c) (hc : c ≤ 1000000) (ha : DRow w b c N) (hb : b < w.heap.size) :
   Calls Tryz.prog 71 #[.slice (some ⟨b, 0, none⟩) c cap0] w fun e w' => e = .returned (.string (sc N)) ∧ Below w.heap.size w w' := by
 have hmk : ∀ w, (Instr.makeSlice 100 (.int .i64 33) (.int .i64 33)).run Tryz.prog w = .ok (.slice (some ⟨w.heap.size, 0, none⟩) 33 33) (w.alloc (.cells (dcells 0 33) 3)) := fun _ => by kernel_rfl
 have hmk2 : ∀ w, (Instr.makeSlice 29 (.int .i64 32) (.int .i64 32)).run Tryz.prog w = .ok (.slice (some ⟨w.heap.size, 0, none⟩) 32 32) (w.alloc (.cells (bcells 0 0 32) 5)) := fun _ => by kernel_rfl
 have HN := Box.mk hN; clear hN
 have HA := Box.mk ha; clear ha
 go_enter Tryz.func71, Tryz.ntmps71
 go_wp2_with fail
 refine (refL_any _).mono ?_
 rintro e w1 ⟨P, hP, rfl, hl, hb1⟩
 have hst : RmSt w b c N P w.heap.size 33 0 w1 := by
   have hbl : Below w.heap.size w w1 := ((Below.refl _ _).alloc (Nat.le_refl _) _).trans (hb1.mono (by simp))
   refine ⟨HA.out.below hbl hb, hl, ?_, by omega, ordL_pos, hl.lt (by omega), hbl⟩
   exact (DRow.of (t := 3) (heap_alloc_new w _)).below hb1 (by simp)
 have HS := Box.mk hst; clear hst hl hb1 hP HA
 go_wp2_with fail
 go_loopw [3, 5] (fun v i wr => ∃ j g cap : Nat, j ≤ c ∧ i = .int .i64 ((j : Int) - 1) ∧ v = .slice (some ⟨g, 0, none⟩) 33 cap ∧ RmSt w b c N P g cap (N / 256 ^ j % ordL) wr) (fun _ i _ => (intOf i + 1).toNat)
 case atStart => exact ⟨c, w.heap.size, 33, Nat.le_refl _, rfl, rfl, by rw [Nat.div_eq_of_lt (HN.out : N < 256 ^ c)]; exact HS.out⟩
 case round =>
   clear HS
   obtain ⟨j, g, cap, hj, rfl, rfl, hs⟩ := hrel
   have hcap := hs.hcap
   have HS := Box.mk hs; clear hs
   rcases j with _ | j
   · obtain ⟨wo, rfl⟩ : ∃ wo : World, wo = wr := ⟨_, rfl⟩
     have hbel := HS.out.below
     have hbz := hbel.size
     have hgl := HS.out.dr.lt (by omega)
     have HD := Box.mk HS.out.dr
     have HR := Box.mk HS.out.rl
     clear HS
     have HB := Box.mk hbel; clear hbel
     generalize hR : N / 256 ^ 0 % ordL = R at HD HR
     have HRE := Box.mk hR; clear hR
     go_wp2_with fail
     go_loopw [11] (fun i wz => ∃ k : Nat, k ≤ 32 ∧ i = .int .i64 k ∧ wz.heap[wo.heap.size]? = some (.cells (bcells R k 32) 5 (0, 0)) ∧ DRow wz g 33 R ∧ Below wo.heap.size wo wz) (fun i _ => 32 - (intOf i).toNat)
     case atStart => exact ⟨0, by omega, rfl, by rw [heap_alloc_new]; simp [bcells], HD.out.below ((Below.refl _ _).alloc (Nat.le_refl _) _) hgl, (Below.refl _ _).alloc (Nat.le_refl _) _⟩
     case round =>
       obtain ⟨k, hk, rfl, hrow, hdr, hb3⟩ := hrel
       by_cases hlt : k < 32
       · have c1 := hdr k (by omega)
         have c2 : wr.cell? ⟨wo.heap.size, k, none⟩ = some (.int .u8 ((if k < k then R / 256 ^ k % 256 else 0 : Nat) : Int)) := by
           rw [cell_of_row _ _ _ _ _ _ hrow]; simp [bcells, hlt]
         have f2 : wr.frozen? ⟨wo.heap.size, k, none⟩ = false := frozen_of_row _ _ _ _ _ hrow
         have hbd := digit_bd R k
         have HROW := Box.mk hrow; clear hrow
         have HDR := Box.mk hdr; clear hdr
         have HB3 := Box.mk hb3; clear hb3
         go_wp2
         go_roundw
         case rel =>
           refine ⟨k + 1, by omega, by go_num, ?_, ?_, HB3.out.setCell (p := ⟨wo.heap.size, k, none⟩) (Nat.le_refl _) _⟩
           · rw [heap_setCell_same _ _ _ _ _ _ HROW.out, digit_eq, bcells_step]
           · exact HDR.out.below (B := wo.heap.size) (Below.setCell (p := ⟨wo.heap.size, k, none⟩) (Below.refl _ _) (Nat.le_refl _) _) hgl
         case measure => simp [intOf]; omega
       · have hk3 : k = 32 := by omega
         subst hk3
         rw [bcells_all] at hrow
         have hcv := run_bytes_of_row Tryz.prog wr wo.heap.size 32 _ _ 29 9 5 32 (leList_length _ _) Tryz.underlying29 Tryz.underlying5 Tryz.underlying9 hrow
         clear hrow
         have HB3 := Box.mk hb3; clear hb3 hdr
         go_wp2
         go_ret
         refine ⟨?_, HB.out.trans (HB3.out.mono HB.out.size)⟩
         rw [sc, show N % ordL = R from by rw [← HRE.out]; simp]; rfl
   · rw [show ((j + 1 : Nat) : Int) - 1 = (j : Int) from by omega]
     have hj' : (j : Int) < (c : Int) := by omega
     have ca := HS.out.da j (by omega)
     have hcapI : (32 : Int) ≤ (cap : Int) := by omega
     go_upto_region 6 with (fail)
     go_cut [6] (fun x wx => ∃ g' cap' : Nat, x = .slice (some ⟨g', 0, none⟩) 33 cap' ∧ 33 ≤ cap' ∧ DRow wx g' 33 (N / 256 ^ (j + 1) % ordL * 256 + N / 256 ^ j % 256) ∧ RmSt w b c N P g cap (N / 256 ^ (j + 1) % ordL) wx)
     case first =>
       obtain ⟨i0, hi, hz0, hz1, hz2⟩ := info_parts info_int
       have s1 : ∀ b' : Addr, some (⟨wr.heap.size, 0, none⟩ : Addr) = some b' → ∀ (t : Nat) (u : Value), [Value.int .i64 (digit N j)][t]? = some u → (wr.alloc (.cells #[.int .i64 (digit N j)] 3)).drew.cell? (b'.add t) = some u := by
         intro b' hb' t u hu
         cases hb'
         rcases t with _ | t
         · rw [addr_add]; simp at hu; subst hu
           exact (cell_of_row _ _ _ _ _ _ (heap_alloc_new wr _)).trans rfl
         · simp at hu
       have s2 : ∀ (t : Nat) (u : Value), (dcells (N / 256 ^ (j + 1) % ordL) 32).toList[t]? = some u → (wr.alloc (.cells #[.int .i64 (digit N j)] 3)).drew.cell? ((⟨g, 0, none⟩ : Addr).add t) = some u := by
         intro t u hu
         have ht : t < 32 := by have := (List.getElem?_eq_some_iff.1 hu).1; simpa [dcells] using this
         rw [addr_add]
         have hg := HS.out.dr.lt (by omega)
         have := HS.out.dr.below ((Below.refl _ _).alloc (Nat.le_refl _) (.cells #[.int .i64 (digit N j)] 3)) hg t (by omega)
         refine Eq.trans this ?_
         rw [← hu, Array.getElem?_toList, dcells_get _ _ _ ht]
       have s3 : ∀ u ∈ (dcells (N / 256 ^ (j + 1) % ordL) 32).toList, u.oneCell' = true := by
         intro u hu; simp [dcells] at hu; obtain ⟨t, _, rfl⟩ := hu; rfl
       have S1 := Box.mk s1; clear s1
       have S2 := Box.mk s2; clear s2
       have S3 := Box.mk s3; clear s3
       go_region_law (refine step_append_grows rfl (.tmp 25) (.tmp 27) 100 rfl 3 i0 (.int .i64 0) 1 8 Tryz.underlying100 hi hz0 hz1 hz2 rfl (by decide) (some ⟨wr.heap.size, 0, none⟩) 1 1 [.int .i64 (digit N j)] (by simp [Act.eval]) (fun h => by cases h) rfl S1.out ⟨g, 0, none⟩ 32 cap ((dcells (N / 256 ^ (j + 1) % ordL) 32).toList) (by simp [Act.eval]) (by simp [dcells]) S2.out S3.out (by omega) (by unfold maxLen; omega) (by omega) ?_; intro v' w' hown hgrow)
       go_wp2_with fail
       go_meet
       obtain ⟨g', cap', rfl, _, hcp, hcells⟩ := owned_row hown (by omega)
       refine ⟨g', cap', rfl, by omega, ?_, HS.out.grow hb ?_⟩
       · intro t ht
         refine hcells t _ ?_
         rw [digit_cons _ _ (by omega)]
         rcases t with _ | t
         · rw [digit_eq]; rfl
         · simp only [List.singleton_append, List.getElem?_cons_succ, Nat.add_one_ne_zero, if_false, Nat.add_sub_cancel]
           rw [Array.getElem?_toList]; exact dcells_get _ _ _ (by omega)
       · have h1 := (Below.refl wr.heap.size wr).alloc (Nat.le_refl _) (.cells #[.int .i64 (digit N j)] 3)
         exact h1.drew.trans ⟨hgrow.os, hgrow.tape, hgrow.output, hgrow.size, fun k hk => hgrow.block k (by simp; omega) (by simp)⟩
     case rest =>
       clear HS ca
       obtain ⟨g', cap', rfl, hcap', hdr, hs⟩ := hcut
       have HS := Box.mk hs; clear hs
       have hV0 : N / 256 ^ (j + 1) % ordL * 256 + N / 256 ^ j % 256 < 256 * ordL := by have := HS.out.rl; omega
       have HV0 := Box.mk hV0; clear hV0
       go_wp2_with fail
       go_loopw [6, 7] (fun x i wr => ∃ k g1 cap1 V : Nat, i = .int .i64 k ∧ k ≤ 256 ∧ x = .slice (some ⟨g1, 0, none⟩) 33 cap1 ∧ 33 ≤ cap1 ∧ DRow wr g1 33 V ∧ V + k * ordL = N / 256 ^ (j + 1) % ordL * 256 + N / 256 ^ j % 256 ∧ RmSt w b c N P g cap (N / 256 ^ (j + 1) % ordL) wr) (fun _ i _ => 4096 - (intOf i).toNat)
       case atStart => exact ⟨0, g', cap', _, rfl, by omega, rfl, hcap', hdr, by simp, HS.out⟩
       case round =>
         clear HS hdr
         obtain ⟨k, g1, cap1, V, rfl, hk, rfl, hcap1, hdr, hVe, hs⟩ := hrel
         have hVl : V < 256 * ordL := by have := HV0.out; omega
         have hVm : V % 256 ^ 33 = V := Nat.mod_eq_of_lt (by unfold ordL at hVl; omega)
         have hk2 : ordL ≤ V → k < 255 := fun h => by
           have h0 := HV0.out
           rcases Nat.lt_or_ge k 255 with h1 | h1
           · exact h1
           · have := Nat.mul_le_mul_right ordL h1; omega
         have HS := Box.mk hs; clear hs
         have HDR := Box.mk hdr; clear hdr
         have HVE := Box.mk hVe; clear hVe
         have HVM := Box.mk hVm; clear hVm hVl
         have HK := Box.mk hk2; clear hk2
         go_wp2_with fail
         refine (refLess_any V ordL g1 P cap1 _ HDR.out HS.out.dl ordL_lt hcap1).mono ?_
         rintro e w2 ⟨bo, D, hbo, rfl, hdD, hDe, hb2⟩
         rw [HVM.out] at hDe ⊢
         have HS2 := Box.mk (HS.out.grow hb hb2)
         have HDR2 := Box.mk (HDR.out.below hb2 (HDR.out.lt (by omega)))
         have HDD := Box.mk hdD; clear hdD
         have HDE := Box.mk hDe; clear hDe
         clear hb2 hbo HS HDR
         by_cases hd : ordL ≤ V
         · have hk3 := HK.out hd
           rw [decide_eq_true hd]
           have HD := Box.mk hd; clear hd
           go_wp2
           refine ⟨⟨k + 1, bo, 33, D, by go_num, by omega, rfl, by omega, HDD.out, ?_, HS2.out⟩, by simp [intOf]; omega⟩
           rw [HDE.out HD.out, Nat.add_mul, ← HVE.out]; have := HD.out; omega
         · rw [decide_eq_false hd]
           have HD := Box.mk hd; clear hd
           go_wp2
           refine ⟨⟨j, g1, cap1, by omega, rfl, rfl, ?_⟩, by simp [intOf]⟩
           have e := ref_step N j V k HVE.out (by have := HD.out; omega)
           rw [e]
           exact ⟨HS2.out.da, HS2.out.dl, HDR2.out, hcap1, by have := HD.out; omega, HS2.out.hP, HS2.out.below⟩
end Go.Proofs.YtafhncpaoolljaaGreat
