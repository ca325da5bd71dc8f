/- The package curve: strings as points; the law's fixed calls. -/
import Derived.Test.YtpgichfagodkpaaCurveG
namespace Go.Proofs.Ytpgichfagodkpaa.Fe
set_option linter.unusedVariables false
open Go Go.RowKit

/-- A string is the point p's. -/
structure Pt (t : ByteArray) (p : CP) : Prop where
  eq : t = encP p
theorem Pt.of {s : ByteArray} {p : CP} (h : encP p = s) : Pt s p := ⟨h.symm⟩
theorem Pt.same {s t : ByteArray} {p q : CP} (hs : Pt s p) (ht : Pt t q) (h : p = q) : (s.toList == t.toList) = true := by
  rw [beq_toList, hs.eq, ht.eq, h]; simp
theorem Pt.other {s t : ByteArray} {p q : CP} (hs : Pt s p) (ht : Pt t q) (h : p ≠ q) : (s.toList == t.toList) = false := by
  rw [beq_toList]; refine decide_eq_false fun e => h (encP_inj ?_)
  rw [← hs.eq, ← ht.eq, e]
theorem Pt.size {s : ByteArray} {p : CP} (h : Pt s p) : s.size = 32 := by rw [h.eq]; exact encP_size p
theorem pt_or (s : ByteArray) : (∃ p, Pt s p) ∨ NoP s := by
  by_cases h : ∃ p, encP p = s
  · exact .inl (h.elim fun p hp => ⟨p, Pt.of hp⟩)
  · exact .inr fun p hp => h ⟨p, hp⟩
theorem Pt.num {s : ByteArray} {p : CP} (h : Pt s p) : NoP s → False := fun hn => hn p h.eq.symm
theorem encP_zero : encP CP.zero = sbytes 1 := by unfold encP; show sbytes ((1 : F).val + 2 ^ 255 * ((0 : F).val % 2)) = _; rw [F_one_val, F_zero_val]
def baseB : ByteArray := ⟨#[88, 102, 102, 102, 102, 102, 102, 102, 102, 102, 102, 102, 102, 102, 102, 102, 102, 102, 102, 102, 102, 102, 102, 102, 102, 102, 102, 102, 102, 102, 102, 102]⟩
theorem encP_base : encP CP.base = baseB := by rw [← base_row]; rfl
theorem Pt.base0 {s : ByteArray} (h : Pt s CP.base) (hl : 0 < s.size) : (s[0]'hl).toNat = 88 := by
  obtain rfl : s = baseB := by rw [h.eq, encP_base]
  rfl
theorem Pt.base31 {s : ByteArray} (h : Pt s CP.base) (hl : 31 < s.size) : (s[31]'hl).toNat = 102 := by
  obtain rfl : s = baseB := by rw [h.eq, encP_base]
  rfl
theorem Pt.zero0 {s : ByteArray} (h : Pt s CP.zero) (hl : 0 < s.size) : (s[0]'hl).toNat = 1 := by
  obtain rfl : s = sbytes 1 := by rw [h.eq, encP_zero]
  rfl
theorem no_empty : NoP ⟨#[]⟩ := no_size (by decide)
theorem no_odd : NoP (sbytes (1 + 2 ^ 255)) := fun p hp => by
  have h1 := (enc_iff p (sbytes_size _)).1 hp
  rw [num_sbytes] at h1
  have e : (256 : Nat) ^ 32 = 2 ^ 256 := rfl
  have h2 : p.y.val = 1 := by rw [h1.1]
  have h3 : p.x.val % 2 = 1 := by rw [h1.2]
  have hy : p.y = 1 := Fin.ext (h2.trans F_one_val.symm)
  have h4 := xx_of_on p.on
  have h5 : p.x * p.x = 0 := by rw [h4, hy]; unfold xxOf; grind
  have h6 : p.x = 0 := (f_mul_zero h5).elim id id
  rw [h6, F_zero_val] at h3
  omega
section
variable {a b k m : ByteArray} {p q : CP}
theorem cis (h : Pt a p) (w : World) : Calls Try.prog 15 #[.string a] w fun e w' => e = .returned (.bool true) ∧ Gr w w' :=
  (is_any a w).mono fun _ _ ⟨ok, he, ho, hg⟩ => by
    rcases ho with ⟨rfl, _⟩ | ⟨_, hn⟩
    · exact ⟨he, hg⟩
    · exact (h.num hn).elim
theorem cis_no (h : NoP a) (w : World) : Calls Try.prog 15 #[.string a] w fun e w' => e = .returned (.bool false) ∧ Gr w w' :=
  (is_any a w).mono fun _ _ ⟨ok, he, ho, hg⟩ => by
    rcases ho with ⟨_, p, hp⟩ | ⟨rfl, _⟩
    · exact (h p hp).elim
    · exact ⟨he, hg⟩
theorem cadd (h : Pt a p) (h2 : Pt b q) (w : World) : Calls Try.prog 10 #[.string a, .string b] w fun e w' => ∃ t, Box (Pt t (p.add q)) ∧ e = .returned (.tuple #[.string t, .int .i64 0]) ∧ Gr w w' :=
  (add_any' a b w).mono fun _ _ ⟨ho, hg⟩ => by
    rcases ho with ⟨p', q', hp, hq, he⟩ | ⟨hn | hn, _⟩
    · obtain rfl : p' = p := encP_inj (hp.trans h.eq)
      obtain rfl : q' = q := encP_inj (hq.trans h2.eq)
      exact ⟨_, ⟨⟨rfl⟩⟩, he, hg⟩
    · exact (h.num hn).elim
    · exact (h2.num hn).elim
theorem cadd_no (h : NoP a ∨ NoP b) (w : World) : Calls Try.prog 10 #[.string a, .string b] w fun e w' => e = .returned (.tuple #[.string ⟨#[]⟩, .int .i64 60]) ∧ Gr w w' :=
  (add_any' a b w).mono fun _ _ ⟨ho, hg⟩ => by
    rcases ho with ⟨p', q', hp, hq, _⟩ | ⟨_, he⟩
    · exact (h.elim (fun h => h _ hp) (fun h => h _ hq)).elim
    · exact ⟨he, hg⟩
theorem cneg (h : Pt a p) (w : World) : Calls Try.prog 12 #[.string a] w fun e w' => ∃ t, Box (Pt t p.neg) ∧ e = .returned (.tuple #[.string t, .int .i64 0]) ∧ Gr w w' :=
  (neg_any' a w).mono fun _ _ ⟨ho, hg⟩ => by
    rcases ho with ⟨p', hp, he⟩ | ⟨hn, _⟩
    · obtain rfl : p' = p := encP_inj (hp.trans h.eq)
      exact ⟨_, ⟨⟨rfl⟩⟩, he, hg⟩
    · exact (h.num hn).elim
theorem cneg_no (h : NoP a) (w : World) : Calls Try.prog 12 #[.string a] w fun e w' => e = .returned (.tuple #[.string ⟨#[]⟩, .int .i64 60]) ∧ Gr w w' :=
  (neg_any' a w).mono fun _ _ ⟨ho, hg⟩ => by
    rcases ho with ⟨p', hp, _⟩ | ⟨_, he⟩
    · exact (h _ hp).elim
    · exact ⟨he, hg⟩
theorem cmul (h : Pt a p) (hk : k.size = 32) (w : World) : Calls Try.prog 22 #[.string k, .string a] w fun e w' => ∃ t, Box (Pt t (p.mul (Go.Proofs.Ytpgichfagodkpaa.num k))) ∧ e = .returned (.tuple #[.string t, .int .i64 0]) ∧ Gr w w' :=
  (mul_any' k a w).mono fun _ _ ⟨ho, hg⟩ => by
    rcases ho with ⟨p', hp, _, he⟩ | ⟨hn | hn, _⟩
    · obtain rfl : p' = p := encP_inj (hp.trans h.eq)
      exact ⟨_, ⟨⟨rfl⟩⟩, he, hg⟩
    · exact (h.num hn).elim
    · exact absurd hk hn
theorem mul_no (h : NoP a ∨ k.size ≠ 32) (w : World) : Calls Try.prog 22 #[.string k, .string a] w fun e w' => e = .returned (.tuple #[.string ⟨#[]⟩, .int .i64 60]) ∧ Gr w w' :=
  (mul_any' k a w).mono fun _ _ ⟨ho, hg⟩ => by
    rcases ho with ⟨p', hp, hk, _⟩ | ⟨_, he⟩
    · exact (h.elim (fun h => h _ hp) (fun h => h hk)).elim
    · exact ⟨he, hg⟩
theorem cboth (h : Pt a p) (hk : k.size = 32) (hm : m.size = 32) (w : World) : Calls Try.prog 26 #[.string k, .string a, .string m] w fun e w' => ∃ t, Box (Pt t ((p.mul (Go.Proofs.Ytpgichfagodkpaa.num k)).add (CP.base.mul (Go.Proofs.Ytpgichfagodkpaa.num m)))) ∧ e = .returned (.tuple #[.string t, .int .i64 0]) ∧ Gr w w' :=
  (both_any' k a m w).mono fun _ _ ⟨ho, hg⟩ => by
    rcases ho with ⟨p', hp, _, _, he⟩ | ⟨hn | hn | hn, _⟩
    · obtain rfl : p' = p := encP_inj (hp.trans h.eq)
      exact ⟨_, ⟨⟨rfl⟩⟩, he, hg⟩
    · exact (h.num hn).elim
    · exact absurd hk hn
    · exact absurd hm hn
theorem cboth_no (h : NoP a ∨ k.size ≠ 32 ∨ m.size ≠ 32) (w : World) : Calls Try.prog 26 #[.string k, .string a, .string m] w fun e w' => e = .returned (.tuple #[.string ⟨#[]⟩, .int .i64 60]) ∧ Gr w w' :=
  (both_any' k a m w).mono fun _ _ ⟨ho, hg⟩ => by
    rcases ho with ⟨p', hp, hk, hm, _⟩ | ⟨_, he⟩
    · exact (h.elim (fun h => h _ hp) (fun h => h.elim (fun h => h hk) (fun h => h hm))).elim
    · exact ⟨he, hg⟩
theorem czero (w : World) : Calls Try.prog 19 #[] w fun e w' => ∃ t, Box (Pt t CP.zero) ∧ e = .returned (.string t) ∧ Gr w w' :=
  (zero_at w).mono fun _ _ ⟨he, hg⟩ => ⟨_, ⟨⟨rfl⟩⟩, he, hg⟩
theorem zero1 (w : World) : Calls Try.prog 19 #[] w fun e w' => e = .returned (.string (sbytes 1)) ∧ Gr w w' := encP_zero ▸ zero_at w
theorem cbase (w : World) : Calls Try.prog 17 #[] w fun e w' => ∃ t, Box (Pt t CP.base) ∧ e = .returned (.string t) ∧ Gr w w' :=
  (base_at w).mono fun _ _ ⟨he, hg⟩ => ⟨_, ⟨⟨rfl⟩⟩, he, hg⟩
end
section
variable {P : Program} {W : World} {S : List Nat} {T : (World → Prop) → List Nat → Act → Prop} {L : List (Oper × Kd)} {F : World → Prop} {N : List Nat} {a : Act} {o : Oper}
/-- A slice is made. -/
theorem gm_mk {ty : TypeId} (l c : Operand) (ho : o.op = .makeSlice ty l c) (X : Obj) {vl vc : Value} (hl : a.eval l = vl) (hc : a.eval c = vc) (n m : Nat) (hr : ∀ w, (Instr.makeSlice ty vl vc).run P w = .ok (.slice (some ⟨w.heap.size, 0, none⟩) n m) (w.alloc X)) (hF : Stb F)
    (h : ∀ b, W.heap.size ≤ b → wpG P W S T L (fun w => F w ∧ w.heap[b]? = some X) ([b] ++ N) (a.put o.dst (.slice (some ⟨b, 0, none⟩) n m))) : wpG P W S T ((o, .cha) :: L) F N a :=
  gm_val fun w hw hFw => ⟨_, _, by
    subst hl hc
    unfold execOp
    simp only [ho, Sem.run_bind, hr, Result.andThen_ok, Sem.run_pure], Gr.alloc _ _, _, [w.heap.size], hF.new _ _, ⟨hF _ _ (Gr.alloc _ _) hFw, heap_alloc_new _ _⟩, fun b hb => by simp at hb; subst hb; simp, h _ hw.size⟩
end
set_option maxRecDepth 100000 in
set_option maxHeartbeats 4000000 in
theorem lfixed_any (w : World) : Calls Try.prog 14 #[] w fun e w' => e = .returned (.bool true) ∧ Gr w w' := by
  go_enter Try.func14, Try.ntmps14
  go_wp2_with fail
  refine (cbase _).mono ?_
  rintro e w1 ⟨B, HB, rfl, k⟩
  have G := Box.mk k; clear k
  go_wp2_with fail
  refine (cneg HB.out _).mono ?_
  rintro e w2 ⟨Nn, HN, rfl, k⟩
  replace G := Box.mk (G.out.trans k); clear k
  go_wp2_with fail
  refine (cadd HB.out HN.out _).mono ?_
  rintro e w3 ⟨Z, HZ, rfl, k⟩
  replace G := Box.mk (G.out.trans k); clear k
  have HZ0 := Box.mk (show Pt Z CP.zero from ⟨by rw [HZ.out.eq, CP.add_neg]⟩)
  go_upto_region 4 with (fail)
  try go_frame
  have GW := Box.mk (show Gr w w3 from G.out)
  refine wp_region_seq 7 [.cha, .cha, .flo, .cha, .flo, .flo, .flo] (by rfl) rfl (by decide) ?_
  simp only [List.take, List.zip, List.zipWith]
  refine gm_mk (.const (.int .i64 32)) (.const (.int .i64 32)) rfl (.cells (bcells 0 32 32) 5) rfl rfl 32 32 (fun _ => by kernel_rfl) Stb.tt (fun b1 hb1 => ?_)
  try go_frame
  refine gm_conv (.tmp 24) rfl (.string (sbytes 0)) (Stb.tt.new _ _) (fun wc hwc hFc => run_bytes_of_row Try.prog wc b1 32 _ _ 31 9 5 32 (leList_length 32 0) Try.underlying31 Try.underlying5 Try.underlying9 (by rw [← bcells_all]; exact hFc.2)) ?_
  try go_frame
  refine gm_move (.tmp 1) (.inl rfl) (.string B) rfl ?_
  try go_frame
  refine gm_call [.string (sbytes 0), .string B] (by kernel_rfl) rfl rfl (Stb.tt.new _ _) (fun w1 hw1 _ => (cmul HB.out (sbytes_size 0) w1).mono ?_)
  rintro e w4 ⟨K, HK, rfl, hw2⟩
  refine ⟨_, rfl, hw2, ?_⟩
  try go_frame
  refine gm_move (.tmp 27) (.inl rfl) (.tuple #[.string K, .int .i64 0]) rfl ?_
  try go_frame
  refine gm_extract (vs := #[.string K, .int .i64 0]) (.tmp 23) 0 rfl rfl (.string K) rfl ?_
  try go_frame
  refine gm_extract (vs := #[.string K, .int .i64 0]) (.tmp 23) 1 rfl rfl (.int .i64 0) rfl ?_
  try go_frame
  refine gm_nil ?_
  intro w5 hw5 _
  simp only [List.drop]
  try go_frame
  replace G := Box.mk (G.out.trans hw5)
  have HK0 := Box.mk (show Pt K CP.zero from ⟨by rw [HK.out.eq, num_sbytes, Nat.zero_mod]; rfl⟩)
  clear hw5 GW
  go_wp2_with fail
  refine (mul_no (a := B) (k := ⟨#[]⟩) (.inr (by decide)) _).mono ?_
  rintro e w4 ⟨rfl, k⟩
  replace G := Box.mk (G.out.trans k); clear k
  go_wp2_with fail
  refine (zero1 _).mono ?_
  rintro e w7 ⟨rfl, k⟩
  replace G := Box.mk (G.out.trans k); clear k
  obtain ⟨cap, C, fr, hcv, hown⟩ := run_tobytes (P := Try.prog) 9 31 5 (sbytes 1) Try.underlying9 Try.underlying31 Try.underlying5 (by rw [sbytes_size]; omega) w.heap.size w7 (G.out.size)
  obtain ⟨W2, hW2⟩ : ∃ W, W = (w7.alloc (.cells C 5 fr)).drew := ⟨_, rfl⟩
  rw [← hW2] at hcv
  have hg2 : Gr w7 W2 := by rw [hW2]; exact bdrewN (Gr.alloc w7 _) 1
  obtain ⟨bb, hbb⟩ : ∃ b, b = w7.heap.size := ⟨_, rfl⟩
  rw [← hbb] at hcv hown
  have OW := Box.mk (show Own W2 w.heap.size 5 (.slice (some ⟨bb, 0, none⟩) 32 cap) 32 ((leList 32 1).map byv) from by rw [hW2]; exact hown.drew)
  rw [sbytes_size] at hcv
  go_upto_region 7 with (fail)
  try go_frame
  rw [← hW2, ← hbb]
  replace G := Box.mk (G.out.trans hg2)
  have hbge : w.heap.size ≤ bb := (OW.out.lt _ rfl).1
  clear hcv hown hg2 hW2 hbb
  have hi31 : ((leList 32 1).map byv)[31]? = some (byv (UInt8.ofNat (1 / 256 ^ 31 % 256))) := by rw [List.getElem?_map, leList_get 32 _ 31 (by omega)]; rfl
  obtain ⟨hc, hf⟩ := Own.at OW.out 31 _ hi31
  have hset := Own.set OW.out 31 (byv (UInt8.ofNat (1 / 256 ^ 31 % 256 + 128))) (by omega)
  rw [← List.map_set] at hset
  have hbv : byv (UInt8.ofNat (1 / 256 ^ 31 % 256 + 128)) = .int .u8 128 := by kernel_rfl
  have hbv0 : byv (UInt8.ofNat (1 / 256 ^ 31 % 256)) = .int .u8 0 := by kernel_rfl
  rw [hbv] at hset
  rw [hbv0] at hc
  clear hbv hbv0 hi31
  obtain ⟨W3, hW3⟩ : ∃ W, W = W2.setCell ⟨bb, 31, none⟩ (.int .u8 128) := ⟨_, rfl⟩
  rw [← hW3] at hset
  go_upto_region 10 with (fail)
  try go_frame
  rw [← hW3]
  replace G := Box.mk (show Gr w W3 from by rw [hW3]; exact G.out.setCell hbge _)
  replace OW := Box.mk hset
  clear hset hW3 hc hf
  have hbsz : (B.size : Int) = 32 := by rw [HB.out.size]; rfl
  have hb0l : 0 < B.size := by omega
  have hb31l : 31 < B.size := by omega
  have hz0l : 0 < Z.size := by rw [HZ0.out.size]; omega
  have hzsz : (Z.size : Int) = 32 := by rw [HZ0.out.size]; rfl
  have hb0 : (B[0]'hb0l).toNat = 88 := HB.out.base0 hb0l
  have hb31 : (B[31]'hb31l).toNat = 102 := HB.out.base31 hb31l
  have hz0 : (Z[0]'hz0l).toNat = 1 := HZ0.out.zero0 hz0l
  have qk : (K.toList == Z.toList) = true := HK0.out.same HZ0.out rfl
  go_wp2_with fail
  refine (czero _).mono ?_
  rintro e w5 ⟨Z2, HZ2, rfl, k⟩
  replace G := Box.mk (G.out.trans k); replace OW := Box.mk (OW.out.below k); clear k
  have qz : (Z.toList == Z2.toList) = true := HZ0.out.same HZ2.out rfl
  go_wp2_with fail
  refine (cis HB.out _).mono ?_
  rintro e w6 ⟨rfl, k⟩
  replace G := Box.mk (G.out.trans k); replace OW := Box.mk (OW.out.below k); clear k
  have hst := run_str_Own (P := Try.prog) (src := 31) (dst := 9) OW.out (by intro h; cases h) Try.underlying31 Try.underlying5 Try.underlying9
  rw [show (⟨((leList 32 1).set 31 (UInt8.ofNat (1 / 256 ^ 31 % 256 + 128))).toArray⟩ : ByteArray) = sbytes (1 + 2 ^ 255) from sbytes_top 1 (by decide)] at hst
  obtain ⟨od, hod⟩ : ∃ od, od = sbytes (1 + 2 ^ 255) := ⟨_, rfl⟩
  have NO := Box.mk (show NoP od from hod ▸ no_odd)
  rw [← hod] at hst
  clear hod
  go_wp2_with fail
  refine (cis_no NO.out _).mono ?_
  rintro e w7 ⟨rfl, k⟩
  replace G := Box.mk (G.out.trans k); clear k
  go_wp2_with fail
  refine (cis_no no_empty _).mono ?_
  rintro e w8 ⟨rfl, k⟩
  replace G := Box.mk (G.out.trans k); clear k
  go_wp2
  go_ret
  exact ⟨rfl, G.out⟩
end Go.Proofs.Ytpgichfagodkpaa.Fe
