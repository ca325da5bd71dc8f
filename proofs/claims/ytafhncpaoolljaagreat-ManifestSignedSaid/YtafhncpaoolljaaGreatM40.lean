/- The document of sha2: One of both kinds. The document of sign: the scalar of a sum, a seed's secret, key, signature. The document of sign: Public, Sign, Verify. The document of sign: Verify. Manifest: Check of both. -/
import Derived.Test.YtafhncpaoolljaaGreatM39
import Derived.Test.YtafhncpaoolljaaGreatM13
import Derived.Test.YtafhncpaoolljaaGreatM34
import Derived.Test.YtafhncpaoolljaaGreatM37
import Derived.Test.YtafhncpaoolljaaGreatM05
namespace Go.Proofs.YtafhncpaoolljaaGreat.Big
set_option maxRecDepth 100000
set_option linter.unusedVariables false
open Go Go.RowKit
open Sha
theorem doneB_any (k : Int) (hk : Kind k) (s : ByteArray) (hs : s.size ≤ 500000) (w : World) :
   Calls Tryz.prog 79 #[.int .i64 k, .string s] w fun e w' => e = .returned (.tuple #[.string (sumS k s.data.toList), .int .i64 0]) ∧ Below w.heap.size w w' := by
 rcases hk with rfl | rfl
 · exact one32_any s (by omega) w
 · exact one64_any s (by omega) w
end Go.Proofs.YtafhncpaoolljaaGreat.Big
namespace Go.Proofs.YtafhncpaoolljaaGreat.Fe
set_option maxRecDepth 100000
set_option linter.unusedVariables false
open Go Go.RowKit
theorem dred_any (s : ByteArray) (hs : s.size ≤ 500000) (w : World) : Calls Tryz.prog 41 #[.string s] w fun e w' => e = .returned (.string (redL s.data.toList)) ∧ Gr w w' := by
 have HONE := Box.mk (fun v => Big.doneB_any 1 (.inr rfl) s hs v)
 obtain ⟨H, hH⟩ : ∃ H, H = sumS 1 s.data.toList := ⟨_, rfl⟩
 have HSZ := Box.mk (show H.size = 64 from by rw [hH]; exact size64 _)
 have ER := Box.mk (show redL s.data.toList = sc (Go.Proofs.YtafhncpaoolljaaGreat.num H) from by rw [hH]; rfl)
 obtain ⟨R, hR⟩ : ∃ R, R = redL s.data.toList := ⟨_, rfl⟩
 rw [← hR] at ER ⊢
 rw [← hH] at HONE
 clear hH hs hR
 go_enter Tryz.func41, Tryz.ntmps41
 go_wp2_with fail
 refine (HONE.out _).mono ?_
 rintro e w1 ⟨rfl, k⟩
 have G := Box.mk (Gr.of k); clear k HONE
 go_wp2_with fail
 refine (Go.Proofs.YtafhncpaoolljaaGreat.digits_any H _ (by have := HSZ.out; omega)).mono ?_
 rintro e w2 ⟨b, cap, hb, hbl, rfl, hrow, hb1⟩
 have G2 := Box.mk (G.out.trans (Gr.of hb1))
 go_wp2_with fail
 refine (Go.Proofs.YtafhncpaoolljaaGreat.refMod_any (Go.Proofs.YtafhncpaoolljaaGreat.num H) H.size b cap _ (Go.Proofs.YtafhncpaoolljaaGreat.leNat_lt _) (by have := HSZ.out; omega) hrow hbl).mono ?_
 rintro e w3 ⟨rfl, hb2⟩
 have G3 := Box.mk (G2.out.trans (Gr.of hb2))
 rw [← ER.out]
 clear hrow hb1 hb2 hb hbl
 go_wp2
 go_ret
 exact ⟨rfl, G3.out⟩
open Go Go.RowKit
theorem dis5 (s : ByteArray) (w : World) : Calls Tryz.prog 38 #[.string s] w fun e w' => e = .returned (.bool (decide (s.size = 32 ∧ Go.Proofs.YtafhncpaoolljaaGreat.num s < ordL))) ∧ Gr w w' := Go.Proofs.YtafhncpaoolljaaGreat.refIs_any s w
theorem cat3 (a b c : ByteArray) : (a ++ b ++ c).data.toList = catL [a, b, c] := by simp [catL]
theorem dred3 (a b c : ByteArray) (ha : a.size ≤ 2000) (hb : b.size ≤ 2000) (hc : c.size ≤ 2000) (w : World) : Calls Tryz.prog 41 #[.string (a ++ b ++ c)] w fun e w' => e = .returned (.string (redL (catL [a, b, c]))) ∧ Gr w w' := by
 rw [← cat3]; exact dred_any _ (by rw [ByteArray.size_append, ByteArray.size_append]; omega) w
open Go Go.RowKit
theorem dver_any (key m sig : ByteArray) (hm : m.size ≤ 1000) (w : World) : Calls Tryz.prog 17 #[.string key, .string m, .string sig] w fun e w' => ∃ b, e = .returned (.bool b) ∧ (b = true ↔ VerP key m sig) ∧ Gr w w' := by
 have HM := Box.mk hm; clear hm
 by_cases hs : sig.size = 64
 · have hsI : (sig.size : Int) = 64 := by omega
   have hsB : ((sig.size : Int) != 64) = false := by rw [bne_eq_false_iff_eq]; omega
   have HS := Box.mk hs; clear hs
   rcases pt_or key with ⟨A, h⟩ | h
   · have HA := Box.mk h; clear h
     obtain ⟨P, hP⟩ : ∃ P, P = sig.extract 0 32 := ⟨_, rfl⟩
     obtain ⟨S, hS⟩ : ∃ S, S = sig.extract 32 64 := ⟨_, rfl⟩
     have HP := Box.mk hP; have HSS := Box.mk hS
     have hPs : P.size = 32 := by rw [hP]; exact lo_size HS.out
     have hSs : S.size = 32 := by rw [hS]; exact hi_size HS.out
     have HPZ := Box.mk hPs; have HSZ := Box.mk hSs
     clear hPs hSs hP hS
     rcases pt_or P with ⟨R, h⟩ | h
     · have HR := Box.mk h; clear h
       by_cases hlt : S.size = 32 ∧ Go.Proofs.YtafhncpaoolljaaGreat.num S < ordL
       · have HIS := Box.mk (fun v => (decide_eq_true hlt) ▸ dis5 S v)
         have HLT := Box.mk (show Go.Proofs.YtafhncpaoolljaaGreat.num S < oL from by rw [oL_ordL]; exact hlt.2)
         clear hlt
         go_enter Tryz.func17, Tryz.ntmps17
         go_wp2_with fail
         refine (ddis HA.out _).mono ?_
         rintro e w14 ⟨rfl, k⟩
         have G := Box.mk (Gr.of k); clear k
         go_wp2_with fail
         rw [← HP.out]
         refine (ddis HR.out _).mono ?_
         rintro e w15 ⟨rfl, k⟩
         replace G := Box.mk (G.out.trans k); clear k
         go_wp2_with fail
         rw [show sig.extract 32 sig.size = S from by rw [HS.out]; exact HSS.out.symm]
         refine (HIS.out _).mono ?_
         rintro e w16 ⟨rfl, k⟩
         replace G := Box.mk (G.out.trans k); clear k
         go_upto_region 3 with (fail)
         try go_frame
         refine wp_region_mix 8 [.flo, .flo, .cha, .cha, .flo, .flo, .flo, .flo] (by kernel_rfl) (by kernel_rfl) rfl ?_
         simp only [List.take, List.zip, List.zipWith]
         refine gm_move (.tmp 2) (.inl rfl) (.string sig) rfl ?_
         try go_frame
         refine gm_slice (.tmp 34) (some (.const (.int .i64 32))) none none rfl (.string S) (by rw [HSS.out]; exact run_hi32 HS.out) ?_
         try go_frame
         refine gm_call [] (by kernel_rfl) rfl rfl Stb.tt (fun v1 hv1 _ => (ddbase v1).mono ?_)
         rintro e v2 ⟨B0, HB0, rfl, hv2⟩
         refine ⟨_, rfl, hv2, ?_⟩
         clear hv1 hv2 v1 v2
         try go_frame
         refine gm_call [.string S, .string B0] (by kernel_rfl) rfl rfl Stb.tt (fun v1 hv1 _ => (ddmul HB0.out HSZ.out v1).mono ?_)
         rintro e v2 ⟨L, HL, rfl, hv2⟩
         refine ⟨_, rfl, hv2, ?_⟩
         clear hv1 hv2 v1 v2
         try go_frame
         refine gm_move (.tmp 37) (.inl rfl) (.tuple #[.string L, .int .i64 0]) rfl ?_
         try go_frame
         refine gm_extract (vs := #[.string L, .int .i64 0]) (.tmp 33) 0 rfl rfl (.string L) rfl ?_
         try go_frame
         refine gm_extract (vs := #[.string L, .int .i64 0]) (.tmp 33) 1 rfl rfl (.int .i64 0) rfl ?_
         try go_frame
         refine gm_move (.tmp 38) (.inr rfl) (.string L) rfl ?_
         try go_frame
         refine gm_nil ?_
         intro W1 hw7 _
         simp only [List.drop]
         try go_frame
         replace G := Box.mk (G.out.trans (Gr.trans (show Gr w16 w16.drew from (Below.refl _ _).drew) hw7)); clear hw7
         have hKz := HA.out.size; have hPz := HPZ.out
         have hex : (sig.extract 0 32).size = 32 := by rw [← HP.out]; exact hPz
         have hadd2 : (sig.extract 0 32).size + key.size ≤ 9223372036854775807 := by omega
         have hadd3 : (sig.extract 0 32 ++ key).size + m.size ≤ 9223372036854775807 := by rw [ByteArray.size_append]; have := HM.out; omega
         have hadd4 : (sig.extract 0 32).size + key.size + m.size ≤ 9223372036854775807 := by have := HM.out; omega
         clear hPz hKz
         go_wp2_with fail
         clear hadd2 hadd3 hadd4 hex
         rw [← HP.out]
         refine (dred3 P key m (by have := HPZ.out; omega) (by have := HA.out.size; omega) (by have := HM.out; omega) _).mono ?_
         rintro e w19 ⟨rfl, k⟩
         replace G := Box.mk (G.out.trans k); clear k
         obtain ⟨h, hh⟩ : ∃ h, h = redL (catL [P, key, m]) := ⟨_, rfl⟩
         rw [← hh]
         have HH := Box.mk (show h.size = 32 from by rw [hh]; exact redL_size _); have EH := Box.mk hh
         clear hh
         go_wp2_with fail
         refine (ddmul HA.out HH.out _).mono ?_
         rintro e w20 ⟨K, HK, rfl, k⟩
         replace G := Box.mk (G.out.trans k); clear k
         go_wp2_with fail
         try rw [← HP.out]
         refine (ddadd HR.out HK.out _).mono ?_
         rintro e w21 ⟨T, HT, rfl, k⟩
         replace G := Box.mk (G.out.trans k); clear k
         by_cases hq : CP.base.mul (Go.Proofs.YtafhncpaoolljaaGreat.num S) = R.add (A.mul (Go.Proofs.YtafhncpaoolljaaGreat.num h))
         · have q1 : (L.toList == T.toList) = true := HL.out.same HT.out hq
           have HQ := Box.mk hq; clear hq
           go_wp2
           go_ret
           exact ⟨true, rfl, ⟨fun _ => ⟨A, R, HA.out, HS.out, HP.out ▸ HR.out, HSS.out ▸ HLT.out, by rw [← HP.out, ← HSS.out, ← EH.out]; exact HQ.out⟩, fun _ => rfl⟩, G.out⟩
         · have q1 : (L.toList == T.toList) = false := HL.out.other HT.out hq
           have HQ := Box.mk hq; clear hq
           go_wp2
           go_ret
           refine ⟨false, rfl, ⟨(fun h => by cases h), fun ⟨A', R', h1, _, h2, _, h3⟩ => (HQ.out ?_).elim⟩, G.out⟩
           obtain rfl : A' = A := encP_inj (h1.eq.symm.trans HA.out.eq)
           rw [← HP.out] at h2 h3
           obtain rfl : R' = R := encP_inj (h2.eq.symm.trans HR.out.eq)
           rw [← HSS.out, ← EH.out] at h3
           exact h3
       · have HIS := Box.mk (fun v => (decide_eq_false hlt) ▸ dis5 S v)
         have HLT := Box.mk hlt
         clear hlt
         go_enter Tryz.func17, Tryz.ntmps17
         go_wp2_with fail
         refine (ddis HA.out _).mono ?_
         rintro e w14 ⟨rfl, k⟩
         have G := Box.mk (Gr.of k); clear k
         go_wp2_with fail
         rw [← HP.out]
         refine (ddis HR.out _).mono ?_
         rintro e w22 ⟨rfl, k⟩
         replace G := Box.mk (G.out.trans k); clear k
         go_wp2_with fail
         rw [show sig.extract 32 sig.size = S from by rw [HS.out]; exact HSS.out.symm]
         refine (HIS.out _).mono ?_
         rintro e w23 ⟨rfl, k⟩
         replace G := Box.mk (G.out.trans k); clear k
         go_wp2
         go_ret
         refine ⟨false, rfl, ⟨(fun h => by cases h), fun ⟨_, _, _, _, _, h, _⟩ => (HLT.out ⟨HSZ.out, ?_⟩).elim⟩, G.out⟩
         rw [← HSS.out, oL_ordL] at h; exact h
     · have HN := Box.mk h; clear h
       go_enter Tryz.func17, Tryz.ntmps17
       go_wp2_with fail
       refine (ddis HA.out _).mono ?_
       rintro e w14 ⟨rfl, k⟩
       have G := Box.mk (Gr.of k); clear k
       go_wp2_with fail
       rw [← HP.out]
       refine (ddis_no HN.out _).mono ?_
       rintro e w24 ⟨rfl, k⟩
       replace G := Box.mk (G.out.trans k); clear k
       go_wp2
       go_ret
       refine ⟨false, rfl, ⟨(fun h => by cases h), fun ⟨_, R, _, _, h, _⟩ => (HN.out R ?_).elim⟩, G.out⟩
       rw [HP.out]; exact h.eq.symm
   · have HN := Box.mk h; clear h
     go_enter Tryz.func17, Tryz.ntmps17
     go_wp2_with fail
     refine (ddis_no HN.out _).mono ?_
     rintro e w25 ⟨rfl, k⟩
     have G := Box.mk (Gr.of k); clear k
     go_wp2
     go_ret
     exact ⟨false, rfl, ⟨(fun h => by cases h), fun ⟨A, _, h, _⟩ => (HN.out A h.eq.symm).elim⟩, G.out⟩
 · have hsB : ((sig.size : Int) != 64) = true := by rw [bne_iff_ne]; omega
   have HS := Box.mk hs; clear hs
   go_enter Tryz.func17, Tryz.ntmps17
   go_wp2
   go_ret
   exact ⟨false, rfl, ⟨(fun h => by cases h), fun ⟨_, _, _, h, _⟩ => (HS.out h).elim⟩, Gr.refl _⟩
end Go.Proofs.YtafhncpaoolljaaGreat.Fe
namespace Go.Proofs.YtafhncpaoolljaaGreat
set_option maxRecDepth 100000
set_option linter.unusedVariables false
open Go Go.RowKit
def chkV (b : Bool) : Int := if b = true then 0 else 223
theorem check_any (key m sig : ByteArray) (hm : m.size ≤ 1000) (w : World) : Calls Tryz.prog 6 #[.string key, .string m, .string sig] w fun e w' => ∃ b, e = .returned (.int .i64 (chkV b)) ∧ (b = true ↔ Fe.VerP key m sig) ∧ Gr w w' := by
 have VE := Box.mk (fun w => Fe.verify_any key m sig hm w)
 clear hm
 go_enter Tryz.func6, Tryz.ntmps6
 go_wp2_with fail
 refine (VE.out _).mono ?_
 rintro e w1 ⟨b, rfl, hb, hg⟩
 have HB := Box.mk hb; have HG := Box.mk hg
 clear hb hg VE
 cases b with
 | true =>
   go_wp2_with fail
   go_ret
   exact ⟨true, rfl, by simpa using HB.out, HG.out⟩
 | false =>
   go_wp2_with fail
   go_ret
   exact ⟨false, rfl, by simpa using HB.out, HG.out⟩
theorem rcheck_any (key m sig : ByteArray) (hm : m.size ≤ 1000) (w : World) : Calls Tryz.prog 7 #[.string key, .string m, .string sig] w fun e w' => ∃ b, e = .returned (.int .i64 (chkV b)) ∧ (b = true ↔ Fe.VerP key m sig) ∧ Gr w w' := by
 have VE := Box.mk (fun w => Fe.dver_any key m sig hm w)
 clear hm
 go_enter Tryz.func7, Tryz.ntmps7
 go_wp2_with fail
 refine (VE.out _).mono ?_
 rintro e w1 ⟨b, rfl, hb, hg⟩
 have HB := Box.mk hb; have HG := Box.mk hg
 clear hb hg VE
 cases b with
 | true =>
   go_wp2_with fail
   go_ret
   exact ⟨true, rfl, by simpa using HB.out, HG.out⟩
 | false =>
   go_wp2_with fail
   go_ret
   exact ⟨false, rfl, by simpa using HB.out, HG.out⟩
end Go.Proofs.YtafhncpaoolljaaGreat
