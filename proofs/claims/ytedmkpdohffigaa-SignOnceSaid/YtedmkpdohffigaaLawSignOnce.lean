/- Whatever four strings come in, the call of SignOnce returns true and leaves its argument as it was. No condition. -/
import Derived.Test.YtedmkpdohffigaaM28
import Derived.Test.YtedmkpdohffigaaM29
import Derived.ProofKit
import Derived.OpenShut
import Derived.ShutString
import Derived.ChangeOld
namespace Go.Proofs.Ytedmkpdohffigaa.signOnce
open Go Go.RowKit Go.ChangeShapes Go.WideShapes Go.ChangeAt Fe
open Go.ChangeMaps (open_string shut_string)
set_option linter.unusedVariables false

def fourV (k m s o : ByteArray) : Value := .agg #[.string k, .string m, .string s, .string o]
set_option maxRecDepth 10000 in
theorem agg4 {cs : Array Value} {a b c d : Value} (hsz : cs.size = 4) (h0 : cs[0]? = some a) (h1 : cs[1]? = some b) (h2 : cs[2]? = some c) (h3 : cs[3]? = some d) : cs = #[a, b, c, d] := by
  obtain ⟨l⟩ := cs
  have h : l.length = 4 := hsz
  match l, h with
  | [x0, x1, x2, x3], _ => simp at h0 h1 h2 h3; simp_all
set_option maxRecDepth 100000 in
theorem open_four {H : Type} {enc : TypeId × Value → H} {w : World} {base : Nat} {spare : Nat → Bool} {held : Bool} {v : Value} {d : DataW H} {p : List MemPlace}
    (hv : Value.okWide Try.prog w .any base 31 v) (h : DataW.Trod enc Try.prog w 0 spare held 31 v d p) :
    ∃ k m s o, v = fourV k m s o ∧ k.size ≤ maxLen ∧ m.size ≤ maxLen ∧ s.size ≤ maxLen ∧ o.size ≤ maxLen := by
  obtain ⟨cs, rfl, hsz, hf⟩ := read_struct Try.underlying31 (by kernel_rfl) (by kernel_rfl) hv h
  obtain ⟨c0, e0, r0⟩ := hf 0 _ rfl
  obtain ⟨c1, e1, r1⟩ := hf 1 _ rfl
  obtain ⟨c2, e2, r2⟩ := hf 2 _ rfl
  obtain ⟨c3, e3, r3⟩ := hf 3 _ rfl
  obtain ⟨k, rfl, wk⟩ := r0.string Try.underlying9
  obtain ⟨m, rfl, wm⟩ := r1.string Try.underlying9
  obtain ⟨s, rfl, ws⟩ := r2.string Try.underlying9
  obtain ⟨o, rfl, wo⟩ := r3.string Try.underlying9
  exact ⟨k, m, s, o, by rw [agg4 hsz e0 e1 e2 e3]; rfl, wk, wm, ws, wo⟩
theorem radd_ok (a b : ByteArray) (ha : a.size = 32) (hb : b.size = 32) (w : World) : Calls Try.prog 12 #[.string a, .string b] w fun e w' => e = .returned (.tuple #[.string (sc (Go.Proofs.Ytedmkpdohffigaa.num a + Go.Proofs.Ytedmkpdohffigaa.num b)), .int .i64 0]) ∧ Gr w w' :=
  (refAdd_any a b w).mono fun _ _ ⟨he, hg⟩ => ⟨by rw [he, if_pos ⟨ha, hb⟩], hg⟩
set_option maxRecDepth 100000 in
set_option maxHeartbeats 4000000 in
theorem walk (k m s o : ByteArray) (wk : k.size ≤ maxLen) (wm : m.size ≤ maxLen) (ws : s.size ≤ maxLen) (wo : o.size ≤ maxLen) (w : World) :
    Calls Try.prog 4 #[fourV k m s o] w fun e w' => e = .returned (.bool true) ∧ Below w.heap.size w w' := by
  have HM0 := Box.mk (fun v => short_any m v wm)
  clear wk wm ws wo
  unfold fourV
  obtain ⟨W0, hW0⟩ : ∃ W, W = w.alloc (.cells #[.string k, .string m, .string s, .string o] 31) := ⟨_, rfl⟩
  obtain ⟨b0, hb0⟩ : ∃ b, b = w.heap.size := ⟨_, rfl⟩
  have g0 : W0.heap[b0]? = some (.cells #[.string k, .string m, .string s, .string o] 31 (0, 0)) := by rw [hW0, hb0]; exact heap_alloc_new _ _
  have c0 := cell_of_row _ _ 0 _ _ _ g0; have c1 := cell_of_row _ _ 1 _ _ _ g0; have c2 := cell_of_row _ _ 2 _ _ _ g0; have c3 := cell_of_row _ _ 3 _ _ _ g0
  simp at c0 c1 c2 c3
  have G := Box.mk (show Gr w W0 from by rw [hW0]; exact Gr.alloc _ _)
  go_enter Try.func4, Try.ntmps4
  go_upto_region 1 with (fail)
  rw [← hW0, ← hb0]
  clear g0 hW0 hb0
  go_region
  obtain ⟨W1, hW1⟩ : ∃ W, W = W0.drew := ⟨_, rfl⟩
  have d1 : W1.cell? ⟨b0, 1, none⟩ = some (.string m) := by rw [hW1]; exact c1
  replace G := Box.mk (show Gr w W1 from by rw [hW1]; exact G.out.drew)
  rw [← hW1]
  clear hW1 c0 c1 c2 c3
  go_wp2_with fail
  refine (HM0.out _).mono ?_
  rintro e w1 ⟨mm, HM, rfl, k⟩
  replace G := Box.mk (G.out.trans (Gr.of k)); clear k
  clear d1
  by_cases h : s.size = 64
  ·
    have hs := h; have hsI : (s.size : Int) = 64 := by omega
    clear h
    by_cases h : o.size = 32
    ·
      have ho := h; have hoI : (o.size : Int) = 32 := by omega
      clear h
      have hlo := lo_size hs; have hhi := hi_size hs
      have hadd : (s.extract 0 32).size + o.size ≤ 9223372036854775807 := by omega
      obtain ⟨V, hV⟩ : ∃ V, V = sc (Go.Proofs.Ytedmkpdohffigaa.num (s.extract 32 64) + Go.Proofs.Ytedmkpdohffigaa.num o) := ⟨_, rfl⟩
      have HRA := Box.mk (fun v => hV ▸ radd_ok (s.extract 32 64) o hhi ho v)
      have hVs : V.size = 32 := by rw [hV]; exact sc_size _
      have hadd2 : (s.extract 0 32).size + V.size ≤ 9223372036854775807 := by omega
      have HON := Box.mk (fun (h1 : VerP k mm s) (h2 : VerP k mm (s.extract 0 32 ++ o)) => (h1.once h2 (by rw [cat_lo hlo ho])).symm)
      have HON2 := Box.mk (fun (h1 : VerP k mm s) (h2 : VerP k mm (s.extract 0 32 ++ V)) => (h1.once h2 (by rw [cat_lo hlo hVs])).symm)
      have HHI := Box.mk (fun (h1 : s.extract 0 32 ++ V = s) => (show V = s.extract 32 64 from by have h2 := cat_hi hlo hVs; rw [h1] at h2; exact h2.symm))
      have HV1 := Box.mk (fun v => verify_any k mm s HM.out v); have HV2 := Box.mk (fun t v => verify_any k mm t HM.out v); have HV3 := Box.mk (fun v => verify_any k mm (s.extract 0 32 ++ V) HM.out v)
      have HSS := Box.mk hs; have HADD := Box.mk hadd
      clear hV hlo hhi ho hadd
      go_wp2_with fail
      refine (HV1.out _).mono ?_
      rintro e w2 ⟨b, rfl, hb, k⟩
      replace G := Box.mk (G.out.trans (Gr.of k)); clear k
      cases b
      ·
        clear hb
        go_wp2_with fail
        refine (lfixed7 _).mono ?_
        rintro e w3 ⟨rfl, k⟩
        replace G := Box.mk (G.out.trans (Gr.of k)); clear k
        go_wp2
        go_ret
        exact ⟨rfl, G.out⟩
      ·
        have HVP := Box.mk (hb.1 rfl); clear hb
        go_upto_region 5 with (fail)
        try go_frame
        refine wp_region_seq 4 [.flo, .flo, .flo, .flo] (by rfl) rfl (by decide) ?_
        simp only [List.take, List.zip, List.zipWith]
        refine gm_move (.tmp 4) (.inl rfl) (.string s) rfl ?_
        try go_frame
        refine gm_slice (.tmp 35) none (some (.const (.int .i64 32))) none rfl (.string (s.extract 0 32)) (run_lo32 HSS.out) ?_
        try go_frame
        refine gm_move (.tmp 5) (.inl rfl) (.string o) rfl ?_
        try go_frame
        refine gm_bin (.tmp 36) (.tmp 37) rfl (.string (s.extract 0 32 ++ o)) (fun _ _ => rfl) (fun w' => run_string_add_sum _ _ _ HADD.out) ?_
        try go_frame
        refine gm_nil ?_
        intro W5 hw7 _
        simp only [List.drop]
        try go_frame
        replace G := Box.mk (G.out.trans hw7); clear hw7
        obtain ⟨oth, hoth⟩ : ∃ t, t = s.extract 0 32 ++ o := ⟨_, rfl⟩
        rw [← hoth]
        have HOT := Box.mk hoth
        clear hoth
        go_upto_region 6 with (fail)
        try go_frame
        refine wp_region_seq 7 [.flo, .flo, .flo, .cha, .flo, .flo, .flo] (by rfl) rfl (by decide) ?_
        simp only [List.take, List.zip, List.zipWith]
        refine gm_move (.tmp 4) (.inl rfl) (.string s) rfl ?_
        try go_frame
        refine gm_slice (.tmp 40) (some (.const (.int .i64 32))) none none rfl (.string (s.extract 32 64)) (run_hi32 HSS.out) ?_
        try go_frame
        refine gm_move (.tmp 5) (.inl rfl) (.string o) rfl ?_
        try go_frame
        refine gm_call [.string (s.extract 32 64), .string o] (by kernel_rfl) rfl rfl Stb.tt (fun w1 hw1 _ => (HRA.out w1).mono ?_)
        rintro e w2 ⟨rfl, hw2⟩
        refine ⟨_, rfl, hw2, ?_⟩
        try go_frame
        refine gm_move (.tmp 43) (.inl rfl) (.tuple #[.string V, .int .i64 0]) rfl ?_
        try go_frame
        refine gm_extract (vs := #[.string V, .int .i64 0]) (.tmp 39) 0 rfl rfl (.string V) rfl ?_
        try go_frame
        refine gm_extract (vs := #[.string V, .int .i64 0]) (.tmp 39) 1 rfl rfl (.int .i64 0) rfl ?_
        try go_frame
        refine gm_nil ?_
        intro W6 hw7 _
        simp only [List.drop]
        try go_frame
        replace G := Box.mk (G.out.trans hw7); clear hw7
        go_wp2_with fail
        refine (lfixed7 _).mono ?_
        rintro e w4 ⟨rfl, k⟩
        replace G := Box.mk (G.out.trans (Gr.of k)); clear k
        by_cases h1 : oth = s
        ·
          have q1 : (oth.toList == s.toList) = true := by rw [h1]; simp
          clear h1
          by_cases h2 : V = s.extract 32 64
          ·
            have q2 : (V.toList == (s.extract 32 64).toList) = true := by rw [h2]; simp
            clear h2
            go_wp2
            go_ret
            exact ⟨rfl, G.out⟩
          ·
            have q2 : (V.toList == (s.extract 32 64).toList) = false := seq_no h2
            have H2 := Box.mk h2; clear h2
            go_wp2_with fail
            refine (HV3.out _).mono ?_
            rintro e w5 ⟨b3, rfl, hb3, k⟩
            replace G := Box.mk (G.out.trans (Gr.of k)); clear k
            obtain rfl : b3 = false := by cases b3 with | false => rfl | true => exact (H2.out (HHI.out (HON2.out HVP.out (hb3.1 rfl)))).elim
            clear hb3
            go_wp2
            go_ret
            exact ⟨rfl, G.out⟩
        ·
          have q1 : (oth.toList == s.toList) = false := seq_no h1
          have H1 := Box.mk h1; clear h1
          go_wp2_with fail
          refine (HV2.out oth _).mono ?_
          rintro e w6 ⟨b2, rfl, hb2, k⟩
          replace G := Box.mk (G.out.trans (Gr.of k)); clear k
          obtain rfl : b2 = false := by cases b2 with | false => rfl | true => exact (H1.out (HOT.out.trans (HON.out HVP.out (HOT.out ▸ hb2.1 rfl)))).elim
          clear hb2
          by_cases h2 : V = s.extract 32 64
          ·
            have q2 : (V.toList == (s.extract 32 64).toList) = true := by rw [h2]; simp
            clear h2
            go_wp2
            go_ret
            exact ⟨rfl, G.out⟩
          ·
            have q2 : (V.toList == (s.extract 32 64).toList) = false := seq_no h2
            have H2 := Box.mk h2; clear h2
            go_wp2_with fail
            refine (HV3.out _).mono ?_
            rintro e w7 ⟨b3, rfl, hb3, k⟩
            replace G := Box.mk (G.out.trans (Gr.of k)); clear k
            obtain rfl : b3 = false := by cases b3 with | false => rfl | true => exact (H2.out (HHI.out (HON2.out HVP.out (hb3.1 rfl)))).elim
            clear hb3
            go_wp2
            go_ret
            exact ⟨rfl, G.out⟩
    ·
      have hoI : ((o.size : Int) == 32) = false := by rw [beq_eq_false_iff_ne]; omega
      go_wp2_with fail
      refine (lfixed7 _).mono ?_
      rintro e w8 ⟨rfl, k⟩
      replace G := Box.mk (G.out.trans (Gr.of k)); clear k
      go_wp2
      go_ret
      exact ⟨rfl, G.out⟩
  ·
    have hsI : ((s.size : Int) == 64) = false := by rw [beq_eq_false_iff_ne]; omega
    go_wp2_with fail
    refine (lfixed7 _).mono ?_
    rintro e w9 ⟨rfl, k⟩
    replace G := Box.mk (G.out.trans (Gr.of k)); clear k
    go_wp2
    go_ret
    exact ⟨rfl, G.out⟩
theorem own : ownKnob Try.prog.godebug = none := by kernel_rfl
theorem laidOut : laidOutB Try.prog = true := by kernel_rfl
set_option maxRecDepth 100000 in
theorem lifted (os : Os) (started : os.Started) (H : Type) (enc : TypeId × Value → H) :
    ReturnsInHanded {} Try.checked os 4 .any (Rows.signOnceSpec.pre6 enc Try.prog Try.f4 Rows.signOnceRow.domain false) (Rows.signOnceSpec.post enc Try.prog Try.f4 false true false false) := by
  refine returnsInHanded_of_change (C := Try.checked) own started (by kernel_rfl) Try.func4
    (ChangeSpec.witness6 (enc := enc) (C := Try.checked) false ⟨#[], #[.agg #[.string ⟨#[]⟩, .string ⟨#[]⟩, .string ⟨#[]⟩, .string ⟨#[]⟩]], []⟩ 8 (by kernel_rfl) (by kernel_rfl) (by kernel_rfl) (by kernel_rfl)) ?_
  intro W base args ds gs before hval0 hW hcnd _
  have hval : ∀ (j : Nat) t v, Try.f4.params[j]? = some t → args[j]? = some v → Value.okWide Try.prog W .any base t v := hval0
  have hW' := hW
  obtain ⟨p, q, hA0, hV, rfl, hfz, hnd⟩ := hW
  have hA : DataW.TrodAll enc Try.prog W 0 (fun _ => true) true Try.f4.params.toList args.toList ds p := hA0
  rw [Try.params4] at hA hval
  obtain ⟨v0, vs0, d0, ds0, p0, q0, hargs, rfl, rfl, h0, r0⟩ := trodAll_cons hA
  obtain ⟨rfl, rfl, rfl⟩ := trodAll_nil r0
  obtain rfl : args = #[v0] := by cases args; simp_all
  obtain ⟨rfl, rfl⟩ := trodVars_none hV
  obtain ⟨k0, m0, s0, o0, rfl, wk0, wm0, ws0, wo0⟩ := open_four (hval 0 31 v0 rfl rfl) h0
  clear hA0 hval0
  refine (walk k0 m0 s0 o0 wk0 wm0 ws0 wo0 W).mono fun e W' ⟨he, bel⟩ => ?_
  subst he
  exact ⟨_, rfl, _, _, _, [], _, [], hW', trodAll_mk1 (shut_bool Try.underlying4 _), (trodAll_cons_mk (Below.trod laidOut (by kernel_rfl) (of_decide_eq_true (by kernel_rfl)) h0 bel (by obtain ⟨f, hf⟩ := h0; exact DataW.trod_lt _ _ _ _ hf)) trodAll_mk0), rfl, bel.frame _, fun h => by cases h⟩

theorem proved : Rows.SignOnceSaid :=
  OpenClaim.holds_of_wide 4 Try.f4 rfl rfl rfl rfl rfl rfl rfl ⟨rfl, rfl, rfl, rfl, rfl⟩ rfl rfl rfl rfl rfl (by kernel_rfl) Try.func4 (by kernel_rfl)
    (of_decide_eq_true (by kernel_rfl)) (by unfold Func.isWrapper; first | (rw [if_pos (by decide +kernel)]; kernel_rfl) | (rw [if_neg (by decide +kernel)]; exact ⟨rfl, rfl⟩))
    (fun os started H enc _ => lifted os started H enc)
#print axioms proved
end Go.Proofs.Ytedmkpdohffigaa.signOnce
