/- FlashOrder. No condition. -/
import Derived.Test.YthdhgjndchmmbaaFlashI
import Derived.Test.YthdhgjndchmmbaaArgs
namespace Go.Proofs.Ythdhgjndchmmbaa.flashOrder
open Go Go.RowKit Go.ChangeShapes Go.WideShapes Go.ChangeAt
open Go.ChangeMaps (open_string shut_string)
set_option linter.unusedVariables false

/-- A call of a script, as a value. -/
def opV (k a n : Int) (s : ByteArray) (m : Int) : Value := .agg #[.int .i64 k, .int .i64 a, .int .i64 n, .string s, .int .u8 m]
theorem agg5 {cs : Array Value} {a b c d e : Value} (h : cs.size = 5) (h0 : cs[0]? = some a) (h1 : cs[1]? = some b) (h2 : cs[2]? = some c) (h3 : cs[3]? = some d) (h4 : cs[4]? = some e) : cs = #[a, b, c, d, e] := by
  obtain ⟨l⟩ := cs
  match l, h with
  | [x0, x1, x2, x3, x4], _ => simp at h0 h1 h2 h3 h4; simp_all
theorem open_op {H : Type} {enc : TypeId × Value → H} {w : World} {base : Nat} {spare : Nat → Bool} {held : Bool} {v : Value} {d : DataW H} {p : List MemPlace}
    (hv : Value.okWide Try.prog w .any base 40 v) (h : DataW.Trod enc Try.prog w 0 spare held 40 v d p) :
    ∃ k a n s m, v = opV k a n s m ∧ (-9223372036854775808 ≤ a ∧ a ≤ 9223372036854775807) ∧ s.size ≤ maxLen ∧ (0 ≤ m ∧ m ≤ 255) ∧ (-9223372036854775808 ≤ k ∧ k ≤ 9223372036854775807) ∧ (-9223372036854775808 ≤ n ∧ n ≤ 9223372036854775807) := by
  obtain ⟨cs, rfl, hsz, hf⟩ := read_struct Try.underlying40 (by kernel_rfl) (by kernel_rfl) hv h
  obtain ⟨c0, e0, r0⟩ := hf 0 _ rfl
  obtain ⟨c1, e1, r1⟩ := hf 1 _ rfl
  obtain ⟨c2, e2, r2⟩ := hf 2 _ rfl
  obtain ⟨c3, e3, r3⟩ := hf 3 _ rfl
  obtain ⟨c4, e4, r4⟩ := hf 4 _ rfl
  obtain ⟨k, rfl, wk⟩ := r0.int Try.underlying3
  obtain ⟨a, rfl, wa⟩ := r1.int Try.underlying3
  obtain ⟨n, rfl, wn⟩ := r2.int Try.underlying3
  obtain ⟨s, rfl, ws⟩ := r3.string Try.underlying9
  obtain ⟨m, rfl, wm⟩ := r4.int Try.underlying5
  exact ⟨k, a, n, s, m, by rw [agg5 hsz e0 e1 e2 e3 e4]; rfl, bounds_i64 wa, ws, bounds_u8 wm, bounds_i64 wk, bounds_i64 wn⟩

set_option maxRecDepth 100000 in
set_option maxHeartbeats 1000000 in
theorem walk (im : ByteArray) (wi : im.size ≤ maxLen) (k a n : Int) (s : ByteArray) (m : Int) (ba : -9223372036854775808 ≤ a ∧ a ≤ 9223372036854775807) (hsm : s.size ≤ maxLen)
    (k' a' n' : Int) (s' : ByteArray) (m' : Int) (ba' : -9223372036854775808 ≤ a' ∧ a' ≤ 9223372036854775807) (hsm' : s'.size ≤ maxLen) (w : World) :
    Calls Try.prog 4 #[.string im, opV k a n s m, opV k' a' n' s' m'] w fun e w' => e = .returned (.bool true) ∧ Below w.heap.size w w' := by
  obtain ⟨r, hr, hrl, HFIT⟩ := fit_any im wi
  clear wi
  have HFIT := Box.mk HFIT; have HR := Box.mk hr; clear hr
  obtain ⟨s0, hs0⟩ : ∃ s0, s0 = FS.new r.data.toList := ⟨_, rfl⟩
  have ok0 : s0.Ok := hs0 ▸ FS.new_ok (by rw [Array.length_toList]; exact HR.out)
  have st0 : s0.Still := hs0 ▸ FS.new_still _
  have A1 := st0.program a s.data.toList
  have ok1 := FS.program_ok ok0 a s.data.toList
  have P1 := fun p bb cb w h => program_any p bb cb s0 a s w h ok0 ba hsm
  obtain ⟨q1, hq1⟩ : ∃ q, q = s0.program a s.data.toList := ⟨_, rfl⟩
  rw [← hq1] at A1 ok1 
  simp only [← hq1] at P1
  have A2 := A1.2.2.2.program a' s'.data.toList
  have P2 := fun p bb cb w h => program_any p bb cb q1.1 a' s' w h ok1 ba' hsm'
  obtain ⟨q2, hq2⟩ : ∃ q, q = q1.1.program a' s'.data.toList := ⟨_, rfl⟩
  rw [← hq2] at A2
  simp only [← hq2] at P2
  have B1 := st0.program a' s'.data.toList
  have ok3 := FS.program_ok ok0 a' s'.data.toList
  have P3 := fun p bb cb w h => program_any p bb cb s0 a' s' w h ok0 ba' hsm'
  obtain ⟨q3, hq3⟩ : ∃ q, q = s0.program a' s'.data.toList := ⟨_, rfl⟩
  rw [← hq3] at B1 ok3
  simp only [← hq3] at P3
  have B2 := B1.2.2.2.program a s.data.toList
  have P4 := fun p bb cb w h => program_any p bb cb q3.1 a s w h ok3 ba hsm
  obtain ⟨q4, hq4⟩ : ∃ q, q = q3.1.program a s.data.toList := ⟨_, rfl⟩
  rw [← hq4] at B2
  simp only [← hq4] at P4
  have e1 : q4.2 = q1.2 := by rw [A1.1, B2.1, B1.2.1, progS_length]
  have e2 : q3.2 = q2.2 := by rw [B1.1, A2.1, A1.2.1, progS_length]
  have e3 : q4.1.b = q2.1.b := by rw [A2.2.1, A1.2.1, B2.2.1, B1.2.1, progS_comm]
  have I2 := fun p bb cb w h => image_any p bb cb q2.1 w h
  have I4 := fun p bb cb w h => image_any p bb cb q4.1 w h
  rw [e3] at I4
  rw [e2] at P3
  rw [e1] at P4
  obtain ⟨i1, hi1⟩ : ∃ i : ByteArray, i = ⟨q2.1.b.toArray⟩ := ⟨_, rfl⟩
  rw [← hi1] at I2 I4
  have P1 := Box.mk P1; have P2 := Box.mk P2; have P3 := Box.mk P3; have P4 := Box.mk P4
  have I2 := Box.mk I2; have I4 := Box.mk I4; have HS := Box.mk hs0
  clear A1 A2 B1 B2 hq1 hq2 hq3 hq4 e1 e2 e3 hi1 st0 ok0 ok1 ok3 ba hsm ba' hsm' hs0
  unfold opV
  go_enter Try.func4, Try.ntmps4
  go_wp2_with fail
  refine (HFIT.out _).mono ?_
  rintro e w1 ⟨rfl, hb1⟩
  have hz1 := hb1.size
  simp only [World.size_alloc] at hz1
  have g1 : w1.heap[w.heap.size]? = some (.cells #[.int .i64 k, .int .i64 a, .int .i64 n, .string s, .int .u8 m] 40) := by
    rw [hb1.block _ (by simp; omega)]; exact row_old _ _ _
  have g2 : w1.heap[w.heap.size + 1]? = some (.cells #[.int .i64 k', .int .i64 a', .int .i64 n', .string s', .int .u8 m'] 40) := by
    rw [hb1.block _ (by simp)]; exact row_new _ _ _
  have B1 := Box.mk ((((Below.refl w.heap.size w).alloc (Nat.le_refl _) (.cells #[.int .i64 k, .int .i64 a, .int .i64 n, .string s, .int .u8 m] 40)).alloc (by simp) (.cells #[.int .i64 k', .int .i64 a', .int .i64 n', .string s', .int .u8 m'] 40)).trans (hb1.mono (by simp; omega)))
  have G1 := Box.mk g1; have G2 := Box.mk g2
  clear hb1 g1 g2
  go_wp2_with fail
  refine (open_yes r _ HR.out).mono ?_
  rintro e w2 ⟨p, bb, cb, rfl, hf, hp, hbb, hcb, hb2⟩
  have F0 : Box (Fl 63 w2 p bb cb s0) := ⟨HS.out ▸ hf⟩
  have B2 := Box.mk hb2; clear hf hb2
  have hz2 := B2.out.size
  go_wp2_with fail
  refine (HFIT.out _).mono ?_
  rintro e w3 ⟨rfl, hb3⟩
  have B3 := Box.mk hb3; clear hb3
  have hz3 := B3.out.size
  go_wp2_with fail
  refine (open_yes r _ HR.out).mono ?_
  rintro e w4 ⟨p', bb', cb', rfl, hf, hp', hbb', hcb', hb4⟩
  have F0' : Box (Fl 63 w4 p' bb' cb' s0) := ⟨HS.out ▸ hf⟩
  have B4 := Box.mk hb4; clear hf hb4
  have hz4 := B4.out.size
  have lt := F0.out.lt
  have F1 := Box.mk ((F0.out.upd (S := []) (Upd.of_below B3.out) (by simp) (by simp) (by simp)).upd (S := []) (Upd.of_below B4.out) (by simp) (by simp) (by simp))
  have U14 := Box.mk (((Upd.of_below B2.out).trans (Upd.of_below (S := []) B3.out)).trans (Upd.of_below B4.out))
  have G1 := Box.mk ((U14.out.block _ (by omega) (by simp)).trans G1.out)
  have G2 := Box.mk ((U14.out.block _ (by omega) (by simp)).trans G2.out)
  have lt' := F0'.out.lt
  have d1 := F1.out.d1
  have c1 : w4.cell? ⟨w.heap.size, 1, none⟩ = some (.int .i64 a) := by rw [cell_of_row _ _ _ _ _ _ G1.out]; rfl
  have c3 : w4.cell? ⟨w.heap.size, 3, none⟩ = some (.string s) := by rw [cell_of_row _ _ _ _ _ _ G1.out]; rfl
  go_wp2_with fail
  refine (P1.out p bb cb _ F1.out).mono ?_
  rintro e w5 ⟨rfl, hf, hu⟩
  clear c1 c3
  have F2 := Box.mk hf; have U2 := Box.mk hu; clear hf hu
  have F0' := Box.mk (F0'.out.upd U2.out (by simp; omega) (by simp; omega) (by simp; omega))
  have G1 := Box.mk ((U2.out.block _ (by omega) (by simp; omega)).trans G1.out)
  have G2 := Box.mk ((U2.out.block _ (by omega) (by simp; omega)).trans G2.out)
  have c1 : w5.cell? ⟨w.heap.size + 1, 1, none⟩ = some (.int .i64 a') := by rw [cell_of_row _ _ _ _ _ _ G2.out]; rfl
  have c3 : w5.cell? ⟨w.heap.size + 1, 3, none⟩ = some (.string s') := by rw [cell_of_row _ _ _ _ _ _ G2.out]; rfl
  have hz5 := U2.out.size
  go_wp2_with fail
  refine (P2.out p bb cb _ F2.out).mono ?_
  rintro e w6 ⟨rfl, hf, hu⟩
  clear c1 c3
  have F3 := Box.mk hf; have U3 := Box.mk hu; clear hf hu
  have F0' := Box.mk (F0'.out.upd U3.out (by simp; omega) (by simp; omega) (by simp; omega))
  have G1 := Box.mk ((U3.out.block _ (by omega) (by simp; omega)).trans G1.out)
  have G2 := Box.mk ((U3.out.block _ (by omega) (by simp; omega)).trans G2.out)
  have c1 : w6.cell? ⟨w.heap.size + 1, 1, none⟩ = some (.int .i64 a') := by rw [cell_of_row _ _ _ _ _ _ G2.out]; rfl
  have c3 : w6.cell? ⟨w.heap.size + 1, 3, none⟩ = some (.string s') := by rw [cell_of_row _ _ _ _ _ _ G2.out]; rfl
  have hz6 := U3.out.size
  go_wp2_with fail
  refine (P3.out p' bb' cb' _ F0'.out).mono ?_
  rintro e w7 ⟨rfl, hf, hu⟩
  clear c1 c3
  have F1' := Box.mk hf; have U4 := Box.mk hu; clear hf hu
  have F3 := Box.mk (F3.out.upd U4.out (by simp; omega) (by simp; omega) (by simp; omega))
  have G1 := Box.mk ((U4.out.block _ (by omega) (by simp; omega)).trans G1.out)
  have c1 : w7.cell? ⟨w.heap.size, 1, none⟩ = some (.int .i64 a) := by rw [cell_of_row _ _ _ _ _ _ G1.out]; rfl
  have c3 : w7.cell? ⟨w.heap.size, 3, none⟩ = some (.string s) := by rw [cell_of_row _ _ _ _ _ _ G1.out]; rfl
  have hz7 := U4.out.size
  go_wp2_with fail
  refine (P4.out p' bb' cb' _ F1'.out).mono ?_
  rintro e w8 ⟨rfl, hf, hu⟩
  clear c1 c3
  have F2' := Box.mk hf; have U5 := Box.mk hu; clear hf hu
  have F3 := Box.mk (F3.out.upd U5.out (by simp; omega) (by simp; omega) (by simp; omega))
  have hz8 := U5.out.size
  go_wp2_with fail
  refine (fixed_any _).mono ?_
  rintro e w9 ⟨rfl, hb⟩
  have F4 := Box.mk (F3.out.upd (S := []) (Upd.of_below hb) (by simp) (by simp) (by simp))
  have F4' := Box.mk (F2'.out.upd (S := []) (Upd.of_below hb) (by simp) (by simp) (by simp))
  have U6 := Box.mk (Upd.of_below (S := []) hb); clear hb
  go_wp2_with fail
  refine (I2.out p bb cb _ F4.out).mono ?_
  rintro e w10 ⟨rfl, rfl⟩
  go_wp2_with fail
  refine (I4.out p' bb' cb' _ F4'.out).mono ?_
  rintro e w11 ⟨rfl, rfl⟩
  go_wp2
  go_ret
  refine ⟨rfl, ?_⟩
  refine Upd.below B1.out ((((((U14.out.mono (T := [p, bb, p', bb']) (by simp)).trans (U2.out.mono (by simp))).trans (U3.out.mono (by simp))).trans (U4.out.mono (by simp))).trans (U5.out.mono (by simp))).trans (U6.out.mono (by simp))) ?_ B1.out.size
  intro i hi
  simp only [List.mem_cons, List.not_mem_nil, or_false] at hi
  rcases hi with rfl | rfl | rfl | rfl <;> omega
theorem own : ownKnob Try.prog.godebug = none := by kernel_rfl
theorem laidOut : laidOutB Try.prog = true := by kernel_rfl
set_option maxRecDepth 100000 in
theorem lifted (os : Os) (started : os.Started) (H : Type) (enc : TypeId × Value → H) :
    ReturnsInHanded {} Try.checked os 4 .any (Rows.flashOrderSpec.pre6 enc Try.prog Try.f4 Rows.flashOrderRow.domain false) (Rows.flashOrderSpec.post enc Try.prog Try.f4 false true false false) := by
  refine returnsInHanded_of_change (C := Try.checked) own started (by kernel_rfl) Try.func4
    (ChangeSpec.witness6 (enc := enc) (C := Try.checked) false ⟨#[], #[.string ⟨#[]⟩, .agg #[.int .i64 0, .int .i64 0, .int .i64 0, .string ⟨#[]⟩, .int .u8 0], .agg #[.int .i64 0, .int .i64 0, .int .i64 0, .string ⟨#[]⟩, .int .u8 0]], []⟩ 8 (by kernel_rfl) (by kernel_rfl) (by kernel_rfl) (by kernel_rfl)) ?_
  intro W base args ds gs before hval0 hW hcnd _
  have hval : ∀ (j : Nat) t v, Try.f4.params[j]? = some t → args[j]? = some v → Value.okWide Try.prog W .any base t v := hval0
  have hW' := hW
  obtain ⟨p, q, hA0, hV, rfl, hfz, hnd⟩ := hW
  have hA : DataW.TrodAll enc Try.prog W 0 (fun _ => true) true Try.f4.params.toList args.toList ds p := hA0
  rw [Try.params4] at hA hval
  obtain ⟨v0, vs0, d0, ds0, p0, q0, hargs, rfl, rfl, h0, r0⟩ := trodAll_cons hA
  obtain ⟨v1, vs1, d1, ds1, p1, q1, rfl, rfl, rfl, h1, r1⟩ := trodAll_cons r0
  obtain ⟨v2, vs2, d2, ds2, p2, q2, rfl, rfl, rfl, h2, r2⟩ := trodAll_cons r1
  obtain ⟨rfl, rfl, rfl⟩ := trodAll_nil r2
  obtain rfl : args = #[v0, v1, v2] := by cases args; simp_all
  obtain ⟨rfl, rfl⟩ := trodVars_none hV
  obtain ⟨s0, rfl, rfl, rfl, ws0⟩ := open_string Try.underlying9 (hval 0 9 v0 rfl rfl) h0
  obtain ⟨k1, a1, n1, t1, m1, rfl, ba1, wt1, _bm1, _bk1, _bn1⟩ := open_op (hval 1 40 v1 rfl rfl) h1
  obtain ⟨k2, a2, n2, t2, m2, rfl, ba2, wt2, _bm2, _bk2, _bn2⟩ := open_op (hval 2 40 v2 rfl rfl) h2
  clear hA0 hval0
  refine (walk s0 ws0 k1 a1 n1 t1 m1 ba1 wt1 k2 a2 n2 t2 m2 ba2 wt2 W).mono fun e W' ⟨he, bel⟩ => ?_
  subst he
  exact ⟨_, rfl, _, _, _, [], _, [], hW', trodAll_mk1 (shut_bool Try.underlying4 _), (trodAll_cons_mk (shut_string Try.underlying9 ws0) (trodAll_cons_mk (Below.trod laidOut (by kernel_rfl) (of_decide_eq_true (by kernel_rfl)) h1 bel (by obtain ⟨f, hf⟩ := h1; exact DataW.trod_lt _ _ _ _ hf)) (trodAll_cons_mk (Below.trod laidOut (by kernel_rfl) (of_decide_eq_true (by kernel_rfl)) h2 bel (by obtain ⟨f, hf⟩ := h2; exact DataW.trod_lt _ _ _ _ hf)) trodAll_mk0))), rfl, bel.frame _, fun h => by cases h⟩

theorem proved : Rows.FlashOrderSaid :=
  OpenClaim.holds_of_wide 4 Try.f4 rfl rfl rfl rfl rfl rfl rfl ⟨rfl, rfl, rfl, rfl, rfl⟩ rfl rfl rfl rfl rfl (by kernel_rfl) Try.func4 (by kernel_rfl)
    (of_decide_eq_true (by kernel_rfl)) (by unfold Func.isWrapper; first | (rw [if_pos (by decide +kernel)]; kernel_rfl) | (rw [if_neg (by decide +kernel)]; exact ⟨rfl, rfl⟩))
    (fun os started H enc _ => lifted os started H enc)
#print axioms proved
end Go.Proofs.Ythdhgjndchmmbaa.flashOrder
