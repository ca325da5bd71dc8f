/- Manifest: bytes of digits: the program's Unhex, the document's. -/
import Derived.Test.YtafhncpaoolljaaManB
namespace Go.Proofs.Ytafhncpaoolljaa
set_option maxRecDepth 100000
set_option linter.unusedVariables false
open Go Go.RowKit

def ixM (c : UInt8) : Int := match valM c with | none => -1 | some n => (n : Int)
theorem idx_any (c : UInt8) (w : World) : Calls Try.prog 29 #[.string ⟨#[48, 49, 50, 51, 52, 53, 54, 55, 56, 57, 97, 98, 99, 100, 101, 102]⟩, .int .u8 (c.toNat : Int)] w fun e w' => e = .returned (.int .i64 (ixM c)) ∧ w = w' := by
  refine (Try.strings_IndexByte ⟨#[48, 49, 50, 51, 52, 53, 54, 55, 56, 57, 97, 98, 99, 100, 101, 102]⟩ (c.toNat : Int) w).mono ?_
  rintro e w' ⟨rfl, rfl⟩
  refine ⟨?_, rfl⟩
  have h1 : ((c.toNat : Int).toNat).toUInt8 = c := by rw [Int.toNat_natCast]; exact UInt8.ofNat_toNat
  have h2 : (⟨#[48, 49, 50, 51, 52, 53, 54, 55, 56, 57, 97, 98, 99, 100, 101, 102]⟩ : ByteArray).data.toList = digsM := rfl
  rw [h1, h2, digs_index]; rfl
/-- What Unhex answers. -/
def unV (s : List UInt8) : Value := match unhexL s with
  | some l => .tuple #[.string ⟨l.toArray⟩, .int .i64 0]
  | none => .tuple #[.string ⟨#[]⟩, .int .i64 21]
theorem take_two (s : ByteArray) (k : Nat) (h : k + 1 < s.size) : s.data.toList.take (k + 2) = s.data.toList.take k ++ [s[k]'(by omega), s[k + 1]] := by
  rw [show k + 2 = (k + 1) + 1 by omega, take_succ_at s (k + 1) h, take_succ_at s k (by omega)]; simp
theorem take_len (s : ByteArray) (k : Nat) (h : k ≤ s.size) : (s.data.toList.take k).length = k := by rw [List.length_take, ba_len]; omega
theorem take_all (s : ByteArray) : s.data.toList.take s.size = s.data.toList := List.take_of_length_le (by rw [ba_len]; exact Nat.le_refl _)
theorem unhex_none_of (s : ByteArray) (k : Nat) (hk : k % 2 = 0) (h : k ≤ s.size) (hn : unhexL (s.data.toList.take k) = none) : unhexL s.data.toList = none := by
  have := unhex_app (s.data.toList.take k) (s.data.toList.drop k) (by rw [take_len s k h]; exact hk) hn
  rwa [List.take_append_drop] at this
set_option maxHeartbeats 2000000 in
theorem unhex_any (s : ByteArray) (hs : s.size ≤ 1500000) (w : World) : Calls Try.prog 24 #[.string s] w fun e w' => e = .returned (unV s.data.toList) ∧ Below w.heap.size w w' := by
  obtain ⟨V, hV⟩ : ∃ V, V = unV s.data.toList := ⟨_, rfl⟩
  rw [← hV]
  by_cases hodd : s.size % 2 = 0
  · have e0 : (((s.size : Nat) : Int) % 2 != 0) = false := by rw [bne_eq_false_iff_eq]; omega
    obtain ⟨M, hM⟩ : ∃ M, M = s.size / 2 := ⟨_, rfl⟩
    have e1 : ((s.size : Nat) : Int) / 2 = (M : Int) := by omega
    have e2 : IntKind.i64.wrap (M : Int) = (M : Int) := by rw [IntKind.wrap_i64]; omega
    have hmk := fun w => make_room (P := Try.prog) Try.underlying37 (e := 5) (z := .int .u8 0) (by_ := 1) (by kernel_rfl) rfl 0 M (by omega) (by omega) (by omega) 0 (M : Int) rfl rfl w
    obtain ⟨B, hB⟩ : ∃ B, B = w.heap.size := ⟨_, rfl⟩
    obtain ⟨Z, hZ⟩ : ∃ Z, Z = (List.replicate M (Value.int .u8 0)).toArray := ⟨_, rfl⟩
    rw [← hZ] at hmk
    have O0 := Box.mk (show Own (w.alloc (.cells Z 5)) B 5 (.slice (some ⟨B, 0, none⟩) 0 M) 0 [] by rw [hB]; exact Own.made w 5 Z M w.heap.size (Nat.le_refl _) (by unfold maxLen; omega) (by rw [hZ]; simp))
    have B0 := Box.mk (show Below B w (w.alloc (.cells Z 5)) by rw [hB]; exact (Below.refl _ _).alloc (Nat.le_refl _) _)
    have HBW := Box.mk hB
    have EV := Box.mk hodd
    have HV := Box.mk hV
    rw [← hB]
    clear hM hZ hodd hV
    go_enter Try.func24, Try.ntmps24
    go_wp2_with fail
    rw [← hB]
    clear hB hmk e0 e1 e2
    go_loopw [4, 5] (fun v i wr => ∃ (k : Nat) (x : Value) (l : List UInt8), k ≤ s.size ∧ k % 2 = 0 ∧ x = v ∧ i = .int .i64 (k : Int) ∧ unhexL (s.data.toList.take k) = some l ∧ l.length ≤ k ∧ Own wr B 5 x l.length (l.map byv) ∧ x ≠ .slice none 0 0 ∧ Below B w wr) (fun _ i _ => s.size - (intOf i).toNat)
    case atStart => exact ⟨0, _, [], Nat.zero_le _, rfl, rfl, rfl, rfl, Nat.le_refl _, O0.out, by simp, B0.out⟩
    case round =>
      clear O0 B0
      obtain ⟨k, v, l, hk, hk2, rfl, rfl, hl, hll, ho, hv, hb⟩ := hrel
      have OW := Box.mk ho; have HB := Box.mk hb; have NV := Box.mk hv; have HL := Box.mk hl
      clear ho hb hv hl
      by_cases hlt : k < s.size
      · have hlt2 : k + 1 < s.size := by have := EV.out; omega
        have hkI : (k : Int) < (s.size : Int) := by omega
        obtain ⟨K1, hK1⟩ : ∃ K, K = k + 1 := ⟨_, rfl⟩
        have hw1 : IntKind.i64.wrap ((k : Int) + 1) = (K1 : Int) := by rw [IntKind.wrap_i64]; omega
        have hK1I : (K1 : Int) < (s.size : Int) := by omega
        obtain ⟨K2, hK2⟩ : ∃ K, K = k + 2 := ⟨_, rfl⟩
        have hw2 : IntKind.i64.wrap ((k : Int) + 2) = (K2 : Int) := by rw [IntKind.wrap_i64]; omega
        have hK1n : K1 < s.size := by omega
        obtain ⟨a, ha⟩ : ∃ a, a = s[k] := ⟨_, rfl⟩
        obtain ⟨b, hb⟩ : ∃ b, b = s[K1] := ⟨_, rfl⟩
        have hae : s[k] = a := ha.symm
        have hbe : s[K1] = b := hb.symm
        have IA := Box.mk (fun w => idx_any a w)
        have IB := Box.mk (fun w => idx_any b w)
        have SN : Box (unhexL (s.data.toList.take K2) = match valM a, valM b with | some x, some y => some (l ++ [UInt8.ofNat (16 * x + y)]) | _, _ => none) := ⟨by
          have hb2 : s[k + 1] = b := by subst hK1; exact hbe
          rw [hK2, take_two s k hlt2, hae, hb2, unhex_snoc _ a b (by rw [take_len s k (by omega)]; exact hk2), HL.out]
          cases valM a <;> cases valM b <;> rfl⟩
        have HK := Box.mk (show K2 % 2 = 0 ∧ K2 ≤ s.size ∧ k + 2 = K2 ∧ l.length ≤ k ∧ k < s.size from ⟨by omega, by omega, by omega, hll, hlt⟩)
        clear ha hb hK1 hK2 hk2 hlt2 hll hk HL
        go_upto_region 7 with (fail)
        refine wp_region_mix 10 [.flo, .flo, .flo, .cha, .flo, .flo, .flo, .flo, .cha, .flo] (by kernel_rfl) (by kernel_rfl) rfl ?_
        simp only [List.take, List.zip, List.zipWith]
        try go_frame
        refine gm_move (.tmp 0) (.inl rfl) (.string s) rfl ?_
        try go_frame
        refine gm_move (.tmp 5) (.inl rfl) (.int .i64 (k : Int)) rfl ?_
        try go_frame
        refine gm_flo (.int .u8 (a.toNat : Int)) (fun w1 hw1 => ?_) ?_
        case refine_1 =>
          go_simp
        try go_frame
        refine gm_call [.string ⟨#[48, 49, 50, 51, 52, 53, 54, 55, 56, 57, 97, 98, 99, 100, 101, 102]⟩, .int .u8 (a.toNat : Int)] (by kernel_rfl) rfl rfl Stb.tt (fun w1 hw1 hF1 => (IA.out w1).mono ?_)
        rintro e w2 ⟨rfl, rfl⟩
        refine ⟨_, rfl, Gr.refl _, ?_⟩
        clear hw1 hF1 w1
        try go_frame
        refine gm_move (.tmp 0) (.inl rfl) (.string s) rfl ?_
        try go_frame
        refine gm_move (.tmp 5) (.inl rfl) (.int .i64 (k : Int)) rfl ?_
        try go_frame
        refine gm_flo (.int .i64 (K1 : Int)) (fun w1 hw1 => ?_) ?_
        case refine_1 =>
          go_simp
        try go_frame
        refine gm_flo (.int .u8 (b.toNat : Int)) (fun w1 hw1 => ?_) ?_
        case refine_1 =>
          go_simp
        try go_frame
        refine gm_call [.string ⟨#[48, 49, 50, 51, 52, 53, 54, 55, 56, 57, 97, 98, 99, 100, 101, 102]⟩, .int .u8 (b.toNat : Int)] (by kernel_rfl) rfl rfl Stb.tt (fun w1 hw1 hF1 => (IB.out w1).mono ?_)
        rintro e w2 ⟨rfl, rfl⟩
        refine ⟨_, rfl, Gr.refl _, ?_⟩
        clear hw1 hF1 w1
        try go_frame
        refine gm_move (.tmp 25) (.inr rfl) (.int .i64 (ixM a)) rfl ?_
        try go_frame
        refine gm_nil ?_
        intro w9 hw9 hF9
        simp only [List.drop]
        try go_frame
        have U9 := Box.mk ((Upd.refl [] wr).drew.trans hw9.upd)
        have O9 := Box.mk (OW.out.below (Upd.belowN U9.out))
        have B9 := Box.mk (HB.out.trans ((Upd.belowN U9.out).mono (by have := HB.out.size; have := HBW.out; omega)))
        clear hw9 hF9 OW HB U9
        cases hva : valM a with
        | none => as_aux_lemma =>
          have ea : ixM a = -1 := by unfold ixM; rw [hva]
          rw [ea]
          have HN : Box (V = .tuple #[.string ⟨#[]⟩, .int .i64 21]) := ⟨by
            have h := SN.out
            rw [hva] at h
            rw [HV.out]; unfold unV
            rw [unhex_none_of s K2 HK.out.1 HK.out.2.1 h]⟩
          clear hva ea SN O9 HV
          go_wp2_with fail
          go_ret2
          rw [HN.out]
          exact ⟨rfl, B9.out⟩
        | some x =>
          have ea : ixM a = (x : Int) := by unfold ixM; rw [hva]
          rw [ea]
          cases hvb : valM b with
          | none => as_aux_lemma =>
            have eb : ixM b = -1 := by unfold ixM; rw [hvb]
            rw [eb]
            have hx0 : decide ((x : Int) < 0) = false := by rw [decide_eq_false_iff_not]; omega
            have HN : Box (V = .tuple #[.string ⟨#[]⟩, .int .i64 21]) := ⟨by
              have h := SN.out
              rw [hva, hvb] at h
              rw [HV.out]; unfold unV
              rw [unhex_none_of s K2 HK.out.1 HK.out.2.1 h]⟩
            clear hva hvb ea eb SN O9 HV
            go_wp2_with fail
            go_ret2
            rw [HN.out]
            exact ⟨rfl, B9.out⟩
          | some y => as_aux_lemma =>
            have eb : ixM b = (y : Int) := by unfold ixM; rw [hvb]
            rw [eb]
            have hx0 : decide ((x : Int) < 0) = false := by rw [decide_eq_false_iff_not]; omega
            have hy0 : decide ((y : Int) < 0) = false := by rw [decide_eq_false_iff_not]; omega
            have hx := (val_dg hva).1; have hy := (val_dg hvb).1
            obtain ⟨x16, hx16⟩ : ∃ z, z = 16 * x := ⟨_, rfl⟩
            obtain ⟨c, hc⟩ : ∃ z, z = 16 * x + y := ⟨_, rfl⟩
            have f1 : IntKind.i64.wrap (16 * (x : Int)) = (x16 : Int) := by rw [IntKind.wrap_i64]; omega
            have f2 : IntKind.i64.wrap ((x16 : Int) + (y : Int)) = (c : Int) := by rw [IntKind.wrap_i64]; omega
            have f3 : IntKind.u8.wrap (c : Int) = (c : Int) := by rw [IntKind.wrap_u8]; omega
            have NX : Box (unhexL (s.data.toList.take K2) = some (l ++ [UInt8.ofNat c])) := ⟨by have h := SN.out; rw [hva, hvb] at h; rw [h, hc]⟩
            have HC : Box (byv (UInt8.ofNat c) = .int .u8 (c : Int)) := ⟨by unfold byv; rw [UInt8.toNat_ofNat', Nat.mod_eq_of_lt (by omega)]⟩
            have hll5 : l.length + 1 ≤ 1000000000 := by have := HK.out.2.2.2.1; have := HK.out.2.2.2.2; omega
            clear hva hvb ea eb SN hx hy hx16 hc HV
            go_wp2_with (at_builtin; refine wpList_app1 (w0 := w) rfl (.tmp 37) (.tmp 43) 37 rfl B 5 (.int .u8 0) 1 Try.underlying37 (by kernel_rfl) rfl v l.length (l.map byv) rfl (O9.out.alloc _) (B9.out.alloc (by have := B9.out.size; have := HBW.out; omega) _) (by have := B9.out.size; have := HBW.out; simp; omega) w9.heap.size (.int .u8 (c : Int)) rfl (cell_new _ _ _) rfl hll5 (by decide) ?_)
            intro v' w' hown hb hB hgr hnn
            have HO := Box.mk hown; have HBB := Box.mk hb
            clear hown hb hB hgr O9 B9
            go_wp2_with fail
            refine ⟨⟨K2, v', l ++ [UInt8.ofNat c], HK.out.2.1, HK.out.1, rfl, rfl, NX.out, by rw [List.length_append]; have := HK.out; simp; omega, ?_, hnn, HBB.out⟩, by have := HK.out; simp [intOf]; omega⟩
            rw [List.length_append, List.map_append, List.map_singleton, HC.out]
            exact HO.out
      · have hkk : k = s.size := by omega
        subst hkk
        have hkI : ¬ (s.size : Int) < (s.size : Int) := by omega
        have hcv := own_str OW.out NV.out
        have HN : Box (V = .tuple #[.string ⟨l.toArray⟩, .int .i64 0]) := ⟨by
          have h := HL.out
          rw [take_all] at h
          rw [HV.out]; unfold unV; rw [h]⟩
        clear hlt HV HL
        go_wp2_with fail
        go_ret2
        rw [HN.out]
        exact ⟨rfl, HB.out⟩
  · have e0 : (((s.size : Nat) : Int) % 2 != 0) = true := by rw [bne_iff_ne]; omega
    have HN : Box (V = .tuple #[.string ⟨#[]⟩, .int .i64 21]) := ⟨by
      rw [hV]; unfold unV; rw [unhex_odd _ (by rw [ba_len]; omega)]⟩
    clear hV hodd
    go_enter Try.func24, Try.ntmps24
    go_wp2_with fail
    go_ret2
    rw [HN.out]
    exact ⟨rfl, Below.refl _ _⟩
theorem prs_odd : ∀ (s : List UInt8) (x : UInt8), s.length % 2 = 0 → prsM (s ++ [x]) = prsM s
  | [], x, _ => rfl
  | [_], x, h => by simp at h
  | a :: b :: s, x, h => by
    show prM a b :: prsM (s ++ [x]) = prM a b :: prsM s
    rw [prs_odd s x (by simp at h; omega)]
theorem prs_rest (s : ByteArray) (k : Nat) (hk : k % 2 = 0) (h : k ≤ s.size) (h1 : ¬ k + 1 < s.size) : prsM (s.data.toList.take k) = prsM s.data.toList := by
  by_cases e : k = s.size
  · rw [e, take_all]
  · have hk1 : k + 1 = s.size := by omega
    have := take_succ_at s k (by omega)
    rw [hk1, take_all] at this
    have e2 := prs_odd (s.data.toList.take k) (s[k]'(by omega)) (by rw [take_len s k h]; exact hk)
    rw [← this] at e2
    exact e2.symm
theorem prs_len : ∀ s : List UInt8, (prsM s).length = s.length / 2
  | [] => rfl
  | [_] => by simp [prsM]
  | a :: b :: s => by
    show (prsM s).length + 1 = _
    rw [prs_len s]; simp; omega
theorem f2_bound (c : UInt8) : -200 ≤ f2M c ∧ f2M c ≤ 200 := by
  have := c.toNat_lt
  unfold f2M; split <;> omega
theorem f2_lo {c : UInt8} (h : 48 ≤ c.toNat ∧ c.toNat ≤ 57) : f2M c = (c.toNat : Int) - 48 := by unfold f2M; rw [if_pos h]
theorem f2_hi {c : UInt8} (h : ¬ (48 ≤ c.toNat ∧ c.toNat ≤ 57)) : f2M c = (c.toNat : Int) - 97 + 10 := by unfold f2M; rw [if_neg h]
/-- The number behind m digits of two. -/
def nM (a b : UInt8) : Nat → Int
  | 0 => 0
  | 1 => f2M a
  | _ => 16 * f2M a + f2M b
theorem nM_step (a b : UInt8) : ∀ m, m < 2 → nM a b (m + 1) = nM a b m * 16 + f2M (if m = 0 then a else b)
  | 0, _ => by simp [nM]
  | 1, _ => by simp [nM]; omega
theorem nM_bound (a b : UInt8) (m : Nat) : -10000 ≤ nM a b m ∧ nM a b m ≤ 10000 := by
  have h1 := f2_bound a; have h2 := f2_bound b
  match m with
  | 0 => simp [nM]
  | 1 => simp only [nM]; omega
  | m + 2 => simp only [nM]; omega
theorem prM_u8 (a b : UInt8) : IntKind.u8.wrap (nM a b 2) = ((prM a b).toNat : Int) := by
  rw [IntKind.wrap_u8]
  show (16 * f2M a + f2M b) % 256 = _
  unfold prM
  rw [UInt8.toNat_ofNat']; omega
set_option maxHeartbeats 4000000 in
theorem runhex_any (s : ByteArray) (hs : s.size ≤ 1500000) (w : World) : Calls Try.prog 22 #[.string s] w fun e w' => e = .returned (unV s.data.toList) ∧ Below w.heap.size w w' := by
  obtain ⟨V, hV⟩ : ∃ V, V = unV s.data.toList := ⟨_, rfl⟩
  rw [← hV]
  obtain ⟨B, hB⟩ : ∃ B, B = w.heap.size := ⟨_, rfl⟩
  have O0 := Box.mk (show Own (w.alloc (.cells #[] 5)) B 5 (.slice (some ⟨B, 0, none⟩) 0 0) 0 [] by rw [hB]; exact Own.made w 5 #[] 0 w.heap.size (Nat.le_refl _) (by unfold maxLen; omega) rfl)
  have B0 := Box.mk (show Below B w (w.alloc (.cells #[] 5)) by rw [hB]; exact (Below.refl _ _).alloc (Nat.le_refl _) _)
  have HBW := Box.mk hB; have HV := Box.mk hV
  rw [← hB]
  clear hV
  go_enter Try.func22, Try.ntmps22
  go_wp2_with fail
  rw [← hB]
  clear hB
  go_loopw [4, 5] (fun v i wr => ∃ (k : Nat) (x : Value), k ≤ s.size ∧ k % 2 = 0 ∧ x = v ∧ i = .int .i64 (k : Int) ∧ Own wr B 5 x (prsM (s.data.toList.take k)).length ((prsM (s.data.toList.take k)).map byv) ∧ x ≠ .slice none 0 0 ∧ Below B w wr) (fun _ i _ => s.size - (intOf i).toNat)
  case atStart => exact ⟨0, _, Nat.zero_le _, rfl, rfl, rfl, O0.out, by simp, B0.out⟩
  case round =>
    clear O0 B0
    obtain ⟨k, v, hk, hk2, rfl, rfl, ho, hv, hb⟩ := hrel
    have OW := Box.mk ho; have HB := Box.mk hb; have NV := Box.mk hv
    clear ho hb hv
    obtain ⟨K1, hK1⟩ : ∃ K, K = k + 1 := ⟨_, rfl⟩
    have hw1 : IntKind.i64.wrap ((k : Int) + 1) = (K1 : Int) := by rw [IntKind.wrap_i64]; omega
    by_cases hlt : K1 < s.size
    · have hkI : (K1 : Int) < (s.size : Int) := by omega
      obtain ⟨K2, hK2⟩ : ∃ K, K = k + 2 := ⟨_, rfl⟩
      have hw2 : IntKind.i64.wrap ((k : Int) + 2) = (K2 : Int) := by rw [IntKind.wrap_i64]; omega
      have hkn : k < s.size := by omega
      obtain ⟨a, ha⟩ : ∃ a, a = s[k] := ⟨_, rfl⟩
      obtain ⟨b, hb⟩ : ∃ b, b = s[K1] := ⟨_, rfl⟩
      have NX : Box (prsM (s.data.toList.take K2) = prsM (s.data.toList.take k) ++ [prM a b]) := ⟨by
        have hb2 : s[k + 1]'(by omega) = b := by subst hK1; exact hb.symm
        rw [hK2, take_two s k (by omega), ← ha, hb2, prs_snoc _ a b (by rw [take_len s k (by omega)]; exact hk2)]⟩
      have AT : Box (∀ m (hm : m < 2) (h : k + m < s.size), s[k + m]'h = if m = 0 then a else b) := ⟨fun m hm _ => by
        match m, hm with
        | 0, _ => exact ha.symm
        | 1, _ => subst hK1; exact hb.symm⟩
      have HK := Box.mk (show K2 % 2 = 0 ∧ K2 ≤ s.size ∧ k + 2 = K2 ∧ k < s.size ∧ k + 1 = K1 from ⟨by omega, by omega, by omega, hkn, by omega⟩)
      have HL5 := Box.mk (show (prsM (s.data.toList.take k)).length + 1 ≤ 1000000000 by rw [prs_len, take_len s k hk]; omega)
      obtain ⟨wo, rfl⟩ : ∃ wo : World, wo = wr := ⟨_, rfl⟩
      clear ha hb hK1 hK2 hk2 hk hlt
      go_wp2_with fail
      go_loopw [6, 7] (fun n i wr => ∃ m : Nat, m ≤ 2 ∧ n = .int .i64 (nM a b m) ∧ i = .int .i64 (m : Int) ∧ wo = wr) (fun _ i _ => 2 - (intOf i).toNat)
      case atStart => exact ⟨0, by omega, rfl, rfl, rfl⟩
      case round =>
        obtain ⟨m, hm, rfl, rfl, rfl⟩ := hrel
        by_cases hm2 : m < 2
        · have hmI : (m : Int) < 2 := by omega
          obtain ⟨K, hK⟩ : ∃ K, K = k + m := ⟨_, rfl⟩
          have hw3 : IntKind.i64.wrap ((k : Int) + (m : Int)) = (K : Int) := by rw [IntKind.wrap_i64]; omega
          have hKs : K < s.size := by have := HK.out; omega
          have hKI : (K : Int) < (s.size : Int) := by omega
          obtain ⟨c, hc⟩ : ∃ c, c = s[K] := ⟨_, rfl⟩
          have hce : s[K] = c := hc.symm
          have hcx : c = if m = 0 then a else b := by subst hK; rw [hc]; exact AT.out m hm2 (by omega)
          have NS := Box.mk (nM_step a b m hm2)
          rw [← hcx] at NS
          obtain ⟨P, hP⟩ : ∃ P, P = nM a b m * 16 := ⟨_, rfl⟩
          have hb1 := nM_bound a b m
          have g1 : IntKind.i64.wrap (nM a b m * 16) = P := by rw [IntKind.wrap_i64]; omega
          obtain ⟨X, hX⟩ : ∃ X, X = c.toNat := ⟨_, rfl⟩
          have hX8 : X < 256 := by rw [hX]; exact c.toNat_lt
          have hcX : (c.toNat : Int) = (X : Int) := by rw [hX]
          have hb2 := nM_bound a b (m + 1)
          by_cases hd : 48 ≤ X ∧ X ≤ 57
          · have f := f2_lo (c := c) (by rw [← hX]; exact hd)
            obtain ⟨Y, hY⟩ : ∃ Y, Y = X - 48 := ⟨_, rfl⟩
            have g2 : IntKind.u8.wrap ((X : Int) - 48) = (Y : Int) := by rw [IntKind.wrap_u8]; omega
            have g3 : IntKind.i64.wrap (Y : Int) = (Y : Int) := by rw [IntKind.wrap_i64]; omega
            have g4 : IntKind.i64.wrap (P + (Y : Int)) = nM a b (m + 1) := by rw [NS.out, f, IntKind.wrap_i64]; rw [NS.out, f] at hb2; omega
            have d1 : (48 : Int) ≤ (X : Int) := by omega
            have d2 : (X : Int) ≤ 57 := by omega
            clear hd f hY hc hX hK hcx hP hb1 hb2
            go_wp2_with fail
            exact ⟨⟨m + 1, by omega, rfl, by go_num, trivial⟩, by simp [intOf]; omega⟩
          · have f := f2_hi (c := c) (by rw [← hX]; exact hd)
            have g3 : IntKind.i64.wrap (X : Int) = (X : Int) := by rw [IntKind.wrap_i64]; omega
            obtain ⟨Y1, hY1⟩ : ∃ Y : Int, Y = (X : Int) - 97 := ⟨_, rfl⟩
            obtain ⟨Y2, hY2⟩ : ∃ Y : Int, Y = Y1 + 10 := ⟨_, rfl⟩
            have g5 : IntKind.i64.wrap ((X : Int) - 97) = Y1 := by rw [IntKind.wrap_i64]; omega
            have g6 : IntKind.i64.wrap (Y1 + 10) = Y2 := by rw [IntKind.wrap_i64]; omega
            have g4 : IntKind.i64.wrap (P + Y2) = nM a b (m + 1) := by rw [NS.out, f, IntKind.wrap_i64]; rw [NS.out, f] at hb2; omega
            by_cases d0 : 48 ≤ X
            · have d1 : (48 : Int) ≤ (X : Int) := by omega
              have d2 : ¬ (X : Int) ≤ 57 := by omega
              clear hd f hY1 hY2 hc hX hK hcx hP hb1 hb2 d0
              go_wp2_with fail
              exact ⟨⟨m + 1, by omega, rfl, by go_num, trivial⟩, by simp [intOf]; omega⟩
            · have d1 : ¬ (48 : Int) ≤ (X : Int) := by omega
              clear hd f hY1 hY2 hc hX hK hcx hP hb1 hb2 d0
              go_wp2_with fail
              exact ⟨⟨m + 1, by omega, rfl, by go_num, trivial⟩, by simp [intOf]; omega⟩
        · obtain rfl : m = 2 := by omega
          have hmI : ¬ ((2 : Nat) : Int) < 2 := by omega
          have g7 := prM_u8 a b
          have hl5 := HL5.out
          obtain ⟨U, hU⟩ : ∃ U, U = (prM a b).toNat := ⟨_, rfl⟩
          rw [← hU] at g7
          have HC : Box (byv (prM a b) = .int .u8 (U : Int)) := ⟨by rw [hU]; rfl⟩
          clear hm hm2 hU
          go_wp2_with (at_builtin; refine wpList_app1 (w0 := w) rfl (.tmp 45) (.tmp 48) 37 rfl B 5 (.int .u8 0) 1 Try.underlying37 (by kernel_rfl) rfl v (prsM (s.data.toList.take k)).length ((prsM (s.data.toList.take k)).map byv) rfl (OW.out.alloc _) (HB.out.alloc (by have := HB.out.size; have := HBW.out; omega) _) (by have := HB.out.size; have := HBW.out; simp; omega) wo.heap.size (.int .u8 (U : Int)) rfl (cell_new _ _ _) rfl hl5 (by decide) ?_)
          intro v' w' hown hb hB hgr hnn
          have HO := Box.mk hown; have HBB := Box.mk hb
          clear hown hb hB hgr OW HB
          go_wp2_with fail
          refine ⟨⟨K2, v', HK.out.2.1, HK.out.1, rfl, rfl, ?_, hnn, HBB.out⟩, by have := HK.out; simp [intOf]; omega⟩
          rw [NX.out, List.length_append, List.map_append, List.map_singleton, HC.out]
          exact HO.out
    · have hkI : ¬ (K1 : Int) < (s.size : Int) := by omega
      have PR := prs_rest s k hk2 hk (by omega)
      rw [PR] at OW
      obtain ⟨p, hp⟩ : ∃ p, p = prsM s.data.toList := ⟨_, rfl⟩
      rw [← hp] at OW
      have hcv := own_str OW.out NV.out
      obtain ⟨c, hc⟩ : ∃ c : ByteArray, c = ⟨p.toArray⟩ := ⟨_, rfl⟩
      rw [← hc] at hcv
      have hpl : p.length = s.size / 2 := by rw [hp, prs_len, ba_len]
      have hcs : c.size ≤ 10000000 := by rw [hc]; show p.toArray.size ≤ _; rw [List.size_toArray]; omega
      have RH := Box.mk (fun w => rhex_any c hcs w)
      have hcl : c.data.toList = p := by rw [hc]
      rw [hcl] at RH
      obtain ⟨h, hh⟩ : ∃ h : ByteArray, h = ⟨(hexL p).toArray⟩ := ⟨_, rfl⟩
      rw [← hh] at RH
      have UT := unhex_test s.data.toList
      rw [← hp] at UT
      have UT := Box.mk UT
      have HO := Box.mk OW.out
      have HH := Box.mk hh; have HCC := Box.mk hc
      clear hlt hK1 PR hh hc hcl hcs hpl hp
      go_wp2_with fail
      refine (RH.out _).mono ?_
      rintro e w2 ⟨rfl, hb⟩
      have B2 := Box.mk (HB.out.trans (hb.mono (by have := HB.out.size; have := HBW.out; omega)))
      have hcv2 := own_str (HO.out.below hb) NV.out
      rw [← HCC.out] at hcv2
      clear hb OW HO hcv
      by_cases he : hexL p = s.data.toList
      · have hne : (h.toList != s.toList) = false := by rw [bne_eq_false_iff_eq, ByteArray.toList_eq, ByteArray.toList_eq, HH.out]; exact he
        have heq : (h.toList == s.toList) = true := by rw [beq_iff_eq, ByteArray.toList_eq, ByteArray.toList_eq, HH.out]; exact he
        have HN : Box (V = .tuple #[.string c, .int .i64 0]) := ⟨by rw [HV.out]; unfold unV; rw [UT.out, if_pos he, HCC.out]⟩
        clear he UT HH HCC
        go_wp2_with fail
        go_ret2
        rw [HN.out]
        exact ⟨rfl, B2.out⟩
      · have hne : (h.toList != s.toList) = true := by rw [bne_iff_ne, ByteArray.toList_eq, ByteArray.toList_eq, HH.out]; exact he
        have heq : (h.toList == s.toList) = false := by rw [beq_eq_false_iff_ne, ByteArray.toList_eq, ByteArray.toList_eq, HH.out]; exact he
        have HN : Box (V = .tuple #[.string ⟨#[]⟩, .int .i64 21]) := ⟨by rw [HV.out]; unfold unV; rw [UT.out, if_neg he]⟩
        clear he UT HH HCC
        go_wp2_with fail
        go_ret2
        rw [HN.out]
        exact ⟨rfl, B2.out⟩
end Go.Proofs.Ytafhncpaoolljaa
