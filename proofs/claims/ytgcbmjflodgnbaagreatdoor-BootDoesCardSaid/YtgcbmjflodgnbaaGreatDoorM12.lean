/- A part and the document's, in one state: quiet counts; what stands between the calls of a script. The document's flash: one is made. The document of codes and logs: Put, First, Blocks, told. Boot: the document's store in memory; May, told, Page, Get. Boot: the document's clean, keep. Boot: the document's Format. -/
import Derived.Test.YtgcbmjflodgnbaaGreatDoorM11
import Derived.Deep.QuietTactic
import Derived.Test.YtgcbmjflodgnbaaGreatDoorM07
import Derived.Test.YtgcbmjflodgnbaaGreatDoorM10
namespace Go.Proofs.YtgcbmjflodgnbaaGreatDoor
set_option maxRecDepth 100000
set_option linter.unusedVariables false
open Go Go.RowKit

theorem quiet_calls2 {P : Program} {f : FuncId} {args : Array Value} {w : World} {n : Nat} {v : Value}
    (h : Calls P f args (w.drewN n) fun e w' => e = .returned v ∧ ∃ m, w' = (w.drewN n).drewN m) : Calls P f args (w.drewN n) fun e w'' => e = .returned v ∧ ∃ m, w'' = w.drewN m :=
  h.mono fun _ _ ⟨he, m, hm⟩ => ⟨he, n + m, by rw [hm, World.drewN_drewN]⟩
/-- Blocks that are apart: a part, its flash; the document's. -/
structure Apar (B0 q p bb cb q' p' bb' cb' : Nat) : Prop where
  l1 : B0 < q ∧ B0 < p ∧ B0 < bb ∧ B0 < cb
  l2 : B0 < q' ∧ B0 < p' ∧ B0 < bb' ∧ B0 < cb'
  n1 : q ≠ p ∧ q ≠ bb ∧ q ≠ cb
  n2 : q' ≠ p' ∧ q' ≠ bb' ∧ q' ≠ cb'
  a : q ≠ q' ∧ q ≠ p' ∧ q ≠ bb' ∧ q ≠ cb'
  b : p ≠ q' ∧ p ≠ p' ∧ p ≠ bb' ∧ p ≠ cb'
  c : bb ≠ q' ∧ bb ≠ p' ∧ bb ≠ bb' ∧ bb ≠ cb'
  d : cb ≠ q' ∧ cb ≠ p' ∧ cb ≠ bb' ∧ cb ≠ cb'
/-- A part over a flash, and the document's. -/
structure PdS (wr : World) (F B : Int) (q p bb cb q' p' bb' cb' : Nat) (s s' : FS) : Prop where
  f : Fl 84 wr p bb cb s
  pa : Pa wr q p F B
  m : Fl 73 wr p' bb' cb' s'
  ra : RPa wr q' p' F B
theorem nm3 {x a b c : Nat} (h1 : x ≠ a) (h2 : x ≠ b) (h3 : x ≠ c) : x ∉ [a, b, c] := by simp [h1, h2, h3]
theorem Apar.s1 {B0 q p bb cb q' p' bb' cb' : Nat} (n : Apar B0 q p bb cb q' p' bb' cb') : q ∉ [p, bb, cb] ∧ q' ∉ [p, bb, cb] ∧ p' ∉ [p, bb, cb] ∧ bb' ∉ [p, bb, cb] ∧ cb' ∉ [p, bb, cb] :=
  ⟨nm3 n.n1.1 n.n1.2.1 n.n1.2.2, nm3 n.b.1.symm n.c.1.symm n.d.1.symm, nm3 n.b.2.1.symm n.c.2.1.symm n.d.2.1.symm, nm3 n.b.2.2.1.symm n.c.2.2.1.symm n.d.2.2.1.symm, nm3 n.b.2.2.2.symm n.c.2.2.2.symm n.d.2.2.2.symm⟩
theorem Apar.s2 {B0 q p bb cb q' p' bb' cb' : Nat} (n : Apar B0 q p bb cb q' p' bb' cb') : q' ∉ [p', bb', cb'] ∧ q ∉ [p', bb', cb'] ∧ p ∉ [p', bb', cb'] ∧ bb ∉ [p', bb', cb'] ∧ cb ∉ [p', bb', cb'] :=
  ⟨nm3 n.n2.1 n.n2.2.1 n.n2.2.2, nm3 n.a.2.1 n.a.2.2.1 n.a.2.2.2, nm3 n.b.2.1 n.b.2.2.1 n.b.2.2.2, nm3 n.c.2.1 n.c.2.2.1 n.c.2.2.2, nm3 n.d.2.1 n.d.2.2.1 n.d.2.2.2⟩
theorem Apar.g1 {B0 q p bb cb q' p' bb' cb' : Nat} (n : Apar B0 q p bb cb q' p' bb' cb') : ∀ i, i ∈ [p, bb, cb] → B0 < i := by
  have := n.l1; intro i hi; simp only [List.mem_cons, List.not_mem_nil, or_false] at hi; rcases hi with rfl | rfl | rfl <;> omega
theorem Apar.g2 {B0 q p bb cb q' p' bb' cb' : Nat} (n : Apar B0 q p bb cb q' p' bb' cb') : ∀ i, i ∈ [p', bb', cb'] → B0 < i := by
  have := n.l2; intro i hi; simp only [List.mem_cons, List.not_mem_nil, or_false] at hi; rcases hi with rfl | rfl | rfl <;> omega
theorem PdS.one {wr w1 : World} {F B : Int} {B0 q p bb cb q' p' bb' cb' : Nat} {s s' s1 : FS} (h : PdS wr F B q p bb cb q' p' bb' cb' s s') (n : Apar B0 q p bb cb q' p' bb' cb') (hf : Fl 84 w1 p bb cb s1) (hu : Upd [p, bb, cb] wr w1) :
    PdS w1 F B q p bb cb q' p' bb' cb' s1 s' := by
  obtain ⟨n1, n2, n3, n4, n5⟩ := n.s1
  exact ⟨hf, h.pa.upd hu n1, h.m.upd hu n3 n4 n5, h.ra.upd hu n2⟩
theorem PdS.two {wr w1 : World} {F B : Int} {B0 q p bb cb q' p' bb' cb' : Nat} {s s' s1 : FS} (h : PdS wr F B q p bb cb q' p' bb' cb' s s') (n : Apar B0 q p bb cb q' p' bb' cb') (hf : Fl 73 w1 p' bb' cb' s1) (hu : Upd [p', bb', cb'] wr w1) :
    PdS w1 F B q p bb cb q' p' bb' cb' s s1 := by
  obtain ⟨n1, n2, n3, n4, n5⟩ := n.s2
  exact ⟨h.f.upd hu n3 n4 n5, h.pa.upd hu n2, hf, h.ra.upd hu n1⟩
theorem PdS.same {wr w1 : World} {F B : Int} {q p bb cb q' p' bb' cb' : Nat} {s s' : FS} (h : PdS wr F B q p bb cb q' p' bb' cb' s s') (hu : Upd [] wr w1) :
    PdS w1 F B q p bb cb q' p' bb' cb' s s' :=
  ⟨h.f.upd hu (by simp) (by simp) (by simp), h.pa.upd hu (by simp), h.m.upd hu (by simp) (by simp) (by simp), h.ra.upd hu (by simp)⟩
theorem PdS.lt {wr : World} {F B : Int} {q p bb cb q' p' bb' cb' : Nat} {s s' : FS} (h : PdS wr F B q p bb cb q' p' bb' cb' s s') : (q < wr.heap.size ∧ p < wr.heap.size ∧ bb < wr.heap.size ∧ cb < wr.heap.size) ∧ (q' < wr.heap.size ∧ p' < wr.heap.size ∧ bb' < wr.heap.size ∧ cb' < wr.heap.size) :=
  ⟨⟨h.pa.lt, h.f.lt⟩, ⟨h.ra.lt, h.m.lt⟩⟩
end Go.Proofs.YtgcbmjflodgnbaaGreatDoor
namespace Go.Proofs.YtgcbmjflodgnbaaGreatDoor
set_option maxRecDepth 100000
set_option linter.unusedVariables false
open Go Go.RowKit

set_option maxHeartbeats 1000000 in
theorem ropen_no (s : ByteArray) (w : World) (hs : sizeB s.size = false) :
    Calls Tryz.prog 17 #[.string s] w fun e w' => e = .returned (.tuple #[.pointer none, .int .i64 110]) ∧ w = w' := by
  have hs' : ¬ (1 ≤ s.size / 512 ∧ s.size / 512 ≤ 256 ∧ s.size % 512 = 0) := by unfold sizeB at hs; exact of_decide_eq_false hs
  have HS := Box.mk hs'; clear hs hs'
  by_cases h0 : s.size = 0
  · have h0' : ((s.size : Int) == 0) = true := by rw [beq_iff_eq]; omega
    clear h0
    go_enter Tryz.func17, Tryz.ntmps17
    go_wp2
    go_ret2
    exact ⟨rfl, rfl⟩
  · have h0' : ((s.size : Int) == 0) = false := by rw [beq_eq_false_iff_ne]; omega
    by_cases h1 : s.size % 512 = 0
    · have h1' : ((s.size : Int) % 512 != 0) = false := by rw [bne_eq_false_iff_eq]; omega
      have h2 : (131072 : Int) < (s.size : Int) := by have := HS.out; omega
      clear h0 h1
      go_enter Tryz.func17, Tryz.ntmps17
      go_wp2
      go_ret2
      exact ⟨rfl, rfl⟩
    · have h1' : ((s.size : Int) % 512 != 0) = true := by rw [bne_iff_ne]; omega
      clear h0 h1
      go_enter Tryz.func17, Tryz.ntmps17
      go_wp2
      go_ret2
      exact ⟨rfl, rfl⟩

set_option maxHeartbeats 1000000 in
theorem ropen_yes (s : ByteArray) (w : World) (hs : sizeB s.size = true) :
    Calls Tryz.prog 17 #[.string s] w (Made 73 w s.data.toList) := by
  have hs' : 1 ≤ s.size / 512 ∧ s.size / 512 ≤ 256 ∧ s.size % 512 = 0 := by unfold sizeB at hs; exact of_decide_eq_true hs
  have hcv := fun w => Lib.run_convert_string_bytes (P := Tryz.prog) w 9 42 5 s Tryz.underlying9 Tryz.underlying42 Tryz.underlying5
  have hmk := fun w => make_ints (s.size / 512) ((s.size : Int) / 512) (by omega) (by omega) w
  have h0' : ((s.size : Int) == 0) = false := by rw [beq_eq_false_iff_ne]; omega
  have h1' : ((s.size : Int) % 512 != 0) = false := by rw [bne_eq_false_iff_eq]; omega
  have h2 : ¬ (131072 : Int) < (s.size : Int) := by omega
  have hsz := Lib.bytesWorld_size w 5 s
  have HS := Box.mk hs'; clear hs hs'
  go_enter Tryz.func17, Tryz.ntmps17
  go_wp2
  go_ret2
  have hlen : s.data.toList.length = s.size := by simp
  obtain ⟨sp, fr, hb, hfr⟩ := bytesWorld_row w s
  refine ⟨w.heap.size + 1 + 1, w.heap.size, w.heap.size + 1, rfl, ⟨⟨grownCap w s.size 0 5, s.size / 512, by show s.data.toList.length ≤ _; rw [hlen]; exact grownCap_ge w _ _ _, by simp [FS.new], ?_⟩, ⟨sp, fr, ?_, hfr⟩, ⟨[], ?_⟩, by omega, by omega, by omega⟩, by omega, by omega, by omega, ?_⟩
  · rw [← hsz, row_new]; simp [FS.new]
  · rw [heap_alloc_old _ _ (by simp [hsz]; omega), heap_alloc_old _ _ (by rw [hsz]; omega)]; exact hb
  · rw [← hsz, row_old]; simp [FS.new, nval]
  · exact ((bytesWorld_below w s).alloc (by rw [hsz]; omega) _).alloc (by simp [hsz]; omega) _

set_option maxHeartbeats 1000000 in
theorem rnew_no (k : Int) (w : World) (hs : sizeN k = false) :
    Calls Tryz.prog 36 #[.int .i64 k] w fun e w' => e = .returned (.tuple #[.pointer none, .int .i64 110]) ∧ w = w' := by
  have hk : ¬ (1 ≤ k ∧ k ≤ 256) := by unfold sizeN at hs; exact of_decide_eq_false hs
  have HS := Box.mk hs; clear hs
  by_cases h : k < 1
  · have h1 : decide (k < 1) = true := by simpa using h
    clear hk
    go_enter Tryz.func36, Tryz.ntmps36
    go_wp2
    go_ret2
    exact ⟨rfl, rfl⟩
  · have h1 : decide (k < 1) = false := by simpa using h
    have h2 : decide (256 < k) = true := by rw [decide_eq_true_iff]; omega
    clear hk
    go_enter Tryz.func36, Tryz.ntmps36
    go_wp2
    go_ret2
    exact ⟨rfl, rfl⟩

theorem fill_step (m n : Nat) (h : m < n) : (List.replicate m (bval 255) ++ List.replicate (n - m) (Value.int .u8 0)).set m (.int .u8 255) = List.replicate (m + 1) (bval 255) ++ List.replicate (n - (m + 1)) (Value.int .u8 0) := by
  rw [List.set_append_right _ _ (by simp), List.length_replicate, Nat.sub_self, show n - m = (n - (m + 1)) + 1 from by omega, List.replicate_succ, List.set_cons_zero, List.replicate_succ' (n := m), List.append_assoc]
  rfl
set_option maxHeartbeats 1000000 in
theorem rnew_yes (k : Nat) (w : World) (hs : sizeN k = true) :
    Calls Tryz.prog 36 #[.int .i64 k] w (Made 73 w (List.replicate (512 * k) 255)) := by
  have hk : 1 ≤ (k : Int) ∧ (k : Int) ≤ 256 := by unfold sizeN at hs; exact of_decide_eq_true hs
  have HS := Box.mk hs; clear hs
  have h1 : decide ((k : Int) < 1) = false := by rw [decide_eq_false_iff_not]; omega
  have h2 : decide (256 < (k : Int)) = false := by rw [decide_eq_false_iff_not]; omega
  obtain ⟨n, hn⟩ : ∃ n, n = 512 * k := ⟨_, rfl⟩
  have hn2 : 1 ≤ n ∧ n ≤ 131072 := by omega
  have hmk := fun w => make_bytes n (512 * (k : Int)) (by omega) (by omega) w
  have hsz : sizeB n = true := by unfold sizeB; rw [decide_eq_true_iff]; omega
  have HN := Box.mk hn; clear hn
  have HSZ := Box.mk hsz; clear hsz
  go_enter Tryz.func36, Tryz.ntmps36
  go_wp2
  go_loopw [5] (fun i wr => ∃ m : Nat, m ≤ n ∧ i = .int .i64 m ∧ wr.heap[w.heap.size]? = some (.cells (List.replicate m (bval 255) ++ List.replicate (n - m) (Value.int .u8 0)).toArray 5 (0, 0)) ∧ Below w.heap.size w wr) (fun i _ => n - (intOf i).toNat)
  case atStart => exact ⟨0, by omega, rfl, by rw [heap_alloc_new]; simp, (Below.refl _ _).alloc (Nat.le_refl _) _⟩
  case round =>
    obtain ⟨m, hm, rfl, hg, hb⟩ := hrel
    have HG := Box.mk hg; have HB := Box.mk hb; clear hb
    by_cases hlt : m < n
    · have hI : (m : Int) < (n : Int) := by omega
      have e1 : wr.frozen? ⟨w.heap.size, m, none⟩ = false := frozen_of_row _ _ _ _ _ hg
      have e2 : wr.cell? ⟨w.heap.size, m, none⟩ = some (.int .u8 0) := by
        rw [cell_of_row _ _ _ _ _ _ hg, List.getElem?_toArray, List.getElem?_append_right (by simp), List.length_replicate, Nat.sub_self, List.getElem?_replicate, if_pos (by omega)]
      clear hg
      go_wp2
      refine ⟨⟨m + 1, by omega, by go_num, ?_, HB.out.setCell (Nat.le_refl _) _⟩, by simp [intOf]; omega⟩
      rw [heap_setCell_same _ _ _ _ _ _ HG.out, List.setIfInBounds_toArray, fill_step _ _ hlt]
    · obtain rfl : m = n := by omega
      clear hg
      have hcv := run_bytes_at Tryz.prog wr w.heap.size 0 m (List.replicate m 255) 42 9 5 m (by simp) Tryz.underlying42 Tryz.underlying5 Tryz.underlying9 (fun j u hu => by
        have hjm : j < m := by have := (List.getElem?_eq_some_iff.1 hu).1; simpa using this
        rw [Nat.zero_add, cell_of_row _ _ _ _ _ _ HG.out, List.getElem?_toArray, List.getElem?_append_left (by simpa using hjm), List.getElem?_replicate, if_pos hjm]
        rw [List.getElem?_replicate, if_pos hjm] at hu
        cases hu; rfl)
      go_wp2_with fail
      refine (ropen_yes ⟨(List.replicate m 255).toArray⟩ _ (by show sizeB (List.replicate m (255 : UInt8)).toArray.size = true; simp [HSZ.out])).mono ?_
      rintro e w2 ⟨p, bb, cb, rfl, hf, hp, hbb, hcb, hb2⟩
      have hz := HB.out.size
      go_wp2
      go_ret2
      exact ⟨p, bb, cb, rfl, hf.to (by rw [← HN.out]), by omega, by omega, by omega, HB.out.trans (hb2.mono hz)⟩
end Go.Proofs.YtgcbmjflodgnbaaGreatDoor
namespace Go.Proofs.YtgcbmjflodgnbaaGreatDoor
set_option maxRecDepth 100000
set_option linter.unusedVariables false
open Go Go.RowKit

theorem info_tb8 : (Tryz.prog.info? 5).map (fun i => (i.zero, i.size, i.bytes)) = some (some (.int .u8 0), 1, 1) := by kernel_rfl
theorem leList_snoc (n : Nat) : ∀ j m, leList (j + 1) m = leList j m ++ [UInt8.ofNat (m / 256 ^ j % 256)]
  | 0, m => by simp [leList]
  | j + 1, m => by
    rw [leList, leList_snoc n j (m / 256), leList, Nat.div_div_eq_div_mul, ← Nat.pow_succ']; rfl
set_option maxHeartbeats 2000000 in
theorem rcput_any (n k : Nat) (hk : 1 ≤ k ∧ k ≤ 7) (hn : n < 256 ^ k) (w : World) :
    Calls Tryz.prog 89 #[.int .i64 n, .int .i64 k] w fun e w' => e = .returned (.tuple #[.string ⟨(leList k n).toArray⟩, .int .i64 0]) ∧ Below w.heap.size w w' := by
  obtain ⟨h1, h7⟩ := hk
  have g0 : decide ((k : Int) < 1) = false := by rw [decide_eq_false_iff_not]; omega
  have g1 : decide (7 < (k : Int)) = false := by rw [decide_eq_false_iff_not]; omega
  have g2 : decide ((n : Int) < 0) = false := by rw [decide_eq_false_iff_not]; omega
  have HN := Box.mk hn
  have HN7 : Box (n < 72057594037927936) := ⟨Nat.lt_of_lt_of_le hn (Nat.le_trans (Nat.pow_le_pow_right (by omega) h7) (by decide))⟩
  have hk7 : (k : Int) ≤ 7 := by omega
  obtain ⟨i0, hi0, hz0, hsz0, hby0⟩ := info_parts info_tb8
  have O0 : (w.alloc (.cells #[] 5)).ownsRow w.heap.size 5 1 (.slice (some ⟨w.heap.size, 0, none⟩) 0 0) 0 [] := World.ownsRow_lit (base := w.heap.size) (size := 1) (e := 5) w #[] 0 (Nat.le_refl _) (by unfold maxLen; omega) rfl
  have O0 := Box.mk O0
  clear hn
  go_enter Tryz.func89, Tryz.ntmps89
  go_wp2
  go_loopw [0, 6, 7] (fun m v i wr => ∃ j : Nat, j ≤ k ∧ i = .int .i64 (j : Nat) ∧ m = .int .i64 ((n / 256 ^ j : Nat) : Int) ∧ wr.ownsRow w.heap.size 5 1 v j ((leList j n).map bval) ∧ Below w.heap.size w wr) (fun _ _ i _ => k - (intOf i).toNat)
  case atStart => exact ⟨0, by omega, rfl, by rw [Nat.pow_zero, Nat.div_one], O0.out, (Below.refl _ _).alloc (Nat.le_refl _) _⟩
  case round =>
    clear O0
    obtain ⟨j, hj, rfl, rfl, hown, hb⟩ := hrel
    have HO := Box.mk hown; have HB := Box.mk hb
    clear hown hb
    by_cases hlt : j < k
    · have hI : (j : Int) < (k : Int) := by omega
      obtain ⟨m, hm⟩ : ∃ m, m = n / 256 ^ j := ⟨_, rfl⟩
      have hnx : m / 256 = n / 256 ^ (j + 1) := by rw [hm, Nat.div_div_eq_div_mul, ← Nat.pow_succ]
      rw [← hm]
      obtain ⟨d, hd, HD⟩ : ∃ d : Nat, (m : Int).tmod 256 = (d : Int) ∧ Box (d = m % 256) := ⟨m % 256, by rw [Int.tmod_eq_emod_of_nonneg (by omega)]; omega, ⟨rfl⟩⟩
      obtain ⟨q, hq, HQ⟩ : ∃ q : Nat, (m : Int).tdiv 256 = (q : Int) ∧ Box (q = m / 256) := ⟨m / 256, by rw [Int.tdiv_eq_ediv_of_nonneg (by omega)]; omega, ⟨rfl⟩⟩
      have hwq : IntKind.i64.wrap (q : Int) = (q : Int) := by
        have h1 : m ≤ n := by rw [hm]; exact Nat.div_le_self _ _
        have := HN7.out; have := HQ.out
        rw [IntKind.wrap_i64]; omega
      have hd8 : IntKind.u8.wrap (d : Int) = (d : Int) := by rw [IntKind.wrap_u8]; have := HD.out; omega
      have HMm := Box.mk hm; have HNX := Box.mk hnx
      have S9 := Box.mk HB.out.size; have HL := Box.mk hlt
      have RR : Box (∀ k u, [Value.int .u8 (d : Int)][k]? = some u → (wr.alloc (.cells #[.int .u8 (d : Int)] 5)).cell? ((⟨wr.heap.size, 0, none⟩ : Addr).add k) = some u) := ⟨fun k u hk => by
        match k, hk with
        | 0, hk => simp at hk; subst hk; show (wr.alloc _).cell? ⟨_, 0 + 0, none⟩ = _; rw [cell_of_row _ _ _ _ _ _ (heap_alloc_new _ _)]; rfl
        | k + 1, hk => simp at hk⟩
      clear hm hnx hlt
      go_wp2_with (at_builtin; refine wpList_append_own _ rfl (.tmp 24) (.tmp 28) 42 rfl w.heap.size 5 i0 (.int .u8 0) 1 1 Tryz.underlying42 hi0 hz0 hsz0 hby0 rfl (by decide) _ j _ rfl (own_alloc HO.out _) ⟨wr.heap.size, 0, none⟩ 1 1 [.int .u8 (d : Int)] rfl rfl RR.out (fun u hu => by simp at hu; subst hu; rfl) (by unfold maxLen; omega) (by omega) (by have := S9.out; simp; omega) ?_; intro v' w' hown' hgrow hnil)
      refine ⟨⟨j + 1, HL.out, by go_num, by rw [← HNX.out, ← HQ.out], ?_, ((HB.out.alloc HB.out.size _).grown hgrow (by have := HB.out.size; simp; omega) (fun k e => (World.ownsRow.lt HO.out k e).1))⟩, by have := HL.out; simp [intOf]; omega⟩
      rw [leList_snoc 0, List.map_append]
      have e : bval (UInt8.ofNat (n / 256 ^ j % 256)) = .int .u8 (d : Int) := by
        unfold bval; rw [HD.out, HMm.out]; congr 1; rw [UInt8.toNat_ofNat']; omega
      simp only [List.map_cons, List.map_nil]
      rw [e]
      exact hown'
    · have hI : ¬ (j : Int) < (k : Int) := by omega
      obtain rfl : j = k := by omega
      have hz : n / 256 ^ j = 0 := Nat.div_eq_of_lt HN.out
      rw [hz]
      obtain ⟨g, cap, rfl⟩ := own_form HO.out (by omega)
      have hcv := run_bytes_at Tryz.prog wr g 0 cap (leList j n) 42 9 5 j (leList_length _ _) Tryz.underlying42 Tryz.underlying5 Tryz.underlying9 (fun i u hu => by
        have hi := (List.getElem?_eq_some_iff.1 hu).1
        rw [leList_length] at hi
        rw [Nat.zero_add, HO.out.cellAt i (by omega), List.getElem?_map, hu]; rfl)
      clear hz
      go_wp2
      go_ret2
      exact ⟨rfl, HB.out⟩
end Go.Proofs.YtgcbmjflodgnbaaGreatDoor
namespace Go.Proofs.YtgcbmjflodgnbaaGreatDoor
set_option maxRecDepth 100000
set_option linter.unusedVariables false
open Go Go.RowKit

/-- A store lies at g: over the part at q. -/
structure RBt (w : World) (g q : Nat) (t : BS) : Prop where
  row : w.heap[g]? = some (.cells #[.pointer (some ⟨q, 0, none⟩), .int .i64 t.r.slot, .bool t.r.up, .int .i64 t.r.count, .int .i64 t.r.s0, .int .i64 t.r.s1, .int .i64 (t.seq : Int), .int .i64 (t.block : Int), .bool t.dead] 59 (0, 0))
theorem RBt.cells {w : World} {g q : Nat} {t : BS} (h : RBt w g q t) : w.cell? ⟨g, 0, none⟩ = some (.pointer (some ⟨q, 0, none⟩)) ∧ w.cell? ⟨g, 1, none⟩ = some (.int .i64 t.r.slot) ∧ w.cell? ⟨g, 2, none⟩ = some (.bool t.r.up) ∧ w.cell? ⟨g, 3, none⟩ = some (.int .i64 t.r.count) ∧
    w.cell? ⟨g, 4, none⟩ = some (.int .i64 t.r.s0) ∧ w.cell? ⟨g, 5, none⟩ = some (.int .i64 t.r.s1) ∧ w.cell? ⟨g, 6, none⟩ = some (.int .i64 (t.seq : Int)) ∧ w.cell? ⟨g, 7, none⟩ = some (.int .i64 (t.block : Int)) ∧ w.cell? ⟨g, 8, none⟩ = some (.bool t.dead) := by
  refine ⟨?_, ?_, ?_, ?_, ?_, ?_, ?_, ?_, ?_⟩ <;> (rw [cell_of_row _ _ _ _ _ _ h.row]; rfl)
theorem RBt.lt {w : World} {g q : Nat} {t : BS} (h : RBt w g q t) : g < w.heap.size := (Array.getElem?_eq_some_iff.1 h.row).1
theorem RBt.free {w : World} {g q : Nat} {t : BS} (h : RBt w g q t) (i : Nat) : w.frozen? ⟨g, i, none⟩ = false := frozen_of_row _ _ _ _ _ h.row
theorem RBt.upd {w w' : World} {g q : Nat} {t : BS} {S : List Nat} (h : RBt w g q t) (hu : Upd S w w') (hn : g ∉ S) : RBt w' g q t := ⟨(hu.block _ h.lt hn).trans h.row⟩
theorem RBt.setDead {w : World} {g q : Nat} {t : BS} (h : RBt w g q t) (b : Bool) : RBt (w.setCell ⟨g, 8, none⟩ (.bool b)) g q { t with dead := b } :=
  ⟨by rw [heap_setCell_same _ _ _ _ _ _ h.row]; rfl⟩
/-- A store over a part of two blocks over a flash. -/
structure RBtS (w : World) (F : Nat) (g q p bb cb : Nat) (s : FS) (t : BS) : Prop where
  ap : Bap g q p bb cb
  f : Fl 73 w p bb cb s
  ok : s.Ok
  pa : RPa w q p F 2
  i : In s.n.length F 2
  bt : RBt w g q t
theorem RBtS.flash {w w' : World} {F g q p bb cb : Nat} {s s' : FS} {t : BS} (h : RBtS w F g q p bb cb s t) (hf : Fl 73 w' p bb cb s') (ho : s'.Ok) (hn : s'.n.length = s.n.length) (hu : Upd [p, bb, cb] w w') : RBtS w' F g q p bb cb s' t :=
  ⟨h.ap, hf, ho, h.pa.upd hu (fun hm => h.ap.hq (List.mem_cons_of_mem _ hm)), by rw [hn]; exact h.i, h.bt.upd hu h.ap.hg⟩
theorem RBtS.own {w w' : World} {F g q p bb cb : Nat} {s : FS} {t t' : BS} (h : RBtS w F g q p bb cb s t) (hl : RBt w' g q t') (hu : Upd [g] w w') : RBtS w' F g q p bb cb s t' :=
  ⟨h.ap, h.f.upd hu (by simp; exact h.ap.nm.1) (by simp; exact h.ap.nm.2.1) (by simp; exact h.ap.nm.2.2.1), h.ok, h.pa.upd hu (by simp; exact h.ap.nm.2.2.2.1), h.i, hl⟩
theorem RBtS.keep {w w' : World} {F g q p bb cb : Nat} {s : FS} {t : BS} (h : RBtS w F g q p bb cb s t) (hu : Upd [] w w') : RBtS w' F g q p bb cb s t :=
  ⟨h.ap, h.f.upd hu (by simp) (by simp) (by simp), h.ok, h.pa.upd hu (by simp), h.i, h.bt.upd hu (by simp)⟩
theorem rbtold_any (g q : Nat) (t : BS) (e : Int) (w : World) (h : RBt w g q t) :
    Calls Tryz.prog 54 #[.pointer (some ⟨g, 0, none⟩), .int .i64 e] w fun x w' => x = .returned (.int .i64 e) ∧ RBt w' g q (t.told e) ∧ Upd [g] w w' := by
  obtain ⟨c0, c1, c2, c3, c4, c5, c6, c7, c8⟩ := h.cells
  have f8 := h.free 8
  have L1 := Box.mk (fun b => h.setDead b)
  unfold BS.told
  generalize t.dead = dd at c8 ⊢
  clear h c0 c1 c2 c3 c4 c5 c6 c7
  cases dd with
  | true =>
    go_enter Tryz.func54, Tryz.ntmps54
    go_wp2
    go_ret
    exact ⟨rfl, L1.out true, (Upd.refl _ _).setCell (by simp) _⟩
  | false =>
    go_enter Tryz.func54, Tryz.ntmps54
    go_wp2
    go_ret
    exact ⟨rfl, L1.out (e == 2), (Upd.refl _ _).setCell (by simp) _⟩
theorem rmay_any (r : BR) (w : World) : Calls Tryz.prog 8 #[brV r] w fun e w' => e = .returned (.bool r.may) ∧ Below w.heap.size w w' := by
  obtain ⟨V, hV⟩ : ∃ V, V = r.may := ⟨_, rfl⟩
  rw [← hV]
  have HV := Box.mk hV
  clear hV
  obtain ⟨sl, up, ct, s0, s1⟩ := r
  unfold BR.may at HV
  unfold brV brC
  dsimp only at HV ⊢
  have HQ : ∀ X : Bool, X = V → Below w.heap.size w (w.alloc (.cells #[.int .i64 sl, .bool up, .int .i64 ct, .int .i64 s0, .int .i64 s1] 24)) → (Ending.returned (.bool X) = .returned (.bool V) ∧ Below w.heap.size w (w.alloc (.cells #[.int .i64 sl, .bool up, .int .i64 ct, .int .i64 s0, .int .i64 s1] 24))) := fun X h hb => ⟨by rw [h], hb⟩
  have HQ := Box.mk HQ
  have HB := Box.mk ((Below.refl _ w).alloc (Nat.le_refl _) (.cells #[.int .i64 sl, .bool up, .int .i64 ct, .int .i64 s0, .int .i64 s1] 24))
  go_enter Tryz.func8, Tryz.ntmps8
  go_wp2
  all_goals go_ret
  all_goals
    refine HQ.out _ ?_ HB.out
    rw [HV.out]
    first
    | (symm; rw [decide_eq_true_iff]; omega)
    | (symm; rw [decide_eq_false_iff_not]; omega)
    | (rw [decide_eq_decide]; exact ⟨fun h => ⟨by omega, by omega, by omega, by omega⟩, fun h => h.2.2.2.2⟩)
    | (rw [decide_eq_decide]; omega)
theorem get_step (N Q M b : Nat) (hQ : Q = 256 * N) (hM : M = b + 256 * N) (hN : N < 281474976710656) (hb : b < 256) :
    IntKind.i64.wrap (256 * (N : Int)) = (Q : Int) ∧ IntKind.i64.wrap ((Q : Int) + (b : Int)) = (M : Int) ∧ wrap64 (b : Int) = (b : Int) ∧ IntKind.i64.wrap (b : Int) = (b : Int) := by
  refine ⟨?_, ?_, ?_, ?_⟩
  · rw [IntKind.wrap_i64]; omega
  · rw [IntKind.wrap_i64]; omega
  · rw [IntWalk.wrap64_in] <;> omega
  · rw [IntKind.wrap_i64]; omega
theorem get_back (k : Nat) (hk : k ≤ 7) : IntKind.i64.wrap ((k : Int) - 1) = (k : Int) - 1 := by rw [IntKind.wrap_i64]; omega
theorem rcget_any (s : ByteArray) (hs : 1 ≤ s.size ∧ s.size ≤ 7) (w : World) :
    Calls Tryz.prog 73 #[.string s] w fun e w' => e = .returned (.tuple #[.int .i64 (num s : Nat), .int .i64 0]) ∧ w = w' := by
  obtain ⟨h1, h7⟩ := hs
  have h1I : decide ((s.size : Int) < 1) = false := by rw [decide_eq_false_iff_not]; omega
  have h7I : decide (7 < (s.size : Int)) = false := by rw [decide_eq_false_iff_not]; omega
  have hw0 : IntKind.i64.wrap ((s.size : Int) - 1) = (s.size : Int) - 1 := by rw [IntKind.wrap_i64]; omega
  have hl : s.data.toList.length = s.size := by simp
  go_enter Tryz.func73, Tryz.ntmps73
  go_wp2_with fail
  go_loopw [4, 5] (fun n i wr => ∃ j : Nat, j ≤ s.size ∧ i = .int .i64 ((j : Int) - 1) ∧ n = .int .i64 (leNat (s.data.toList.drop j) : Nat) ∧ w = wr) (fun _ i _ => (intOf i + 1).toNat)
  case atStart => exact ⟨s.size, Nat.le_refl _, rfl, by rw [List.drop_of_length_le (by omega)]; rfl, rfl⟩
  case round =>
    obtain ⟨j, hj, rfl, rfl, rfl⟩ := hrel
    cases j with
    | zero =>
      have e : s.data.toList.drop 0 = s.data.toList := rfl
      rw [e]
      go_wp2_with fail
      go_ret2
      exact ⟨rfl, rfl⟩
    | succ k =>
      rw [show (((k + 1 : Nat) : Int) - 1) = (k : Int) by omega]
      have hkI : (k : Int) < (s.size : Int) := by omega
      have hks : k < s.size := by omega
      obtain ⟨N, hN⟩ : ∃ N, N = leNat (s.data.toList.drop (k + 1)) := ⟨_, rfl⟩
      have hN48 : N < 281474976710656 := by
        have h1 := leNat_lt (s.data.toList.drop (k + 1))
        rw [← hN] at h1
        exact Nat.lt_of_lt_of_le h1 (Nat.le_trans (Nat.pow_le_pow_right (by omega) (by rw [List.length_drop]; omega : (s.data.toList.drop (k + 1)).length ≤ 6)) (by decide))
      obtain ⟨M, hM⟩ : ∃ M, M = leNat (s.data.toList.drop k) := ⟨_, rfl⟩
      have hMN : M = (s[k]'hks).toNat + 256 * N := by
        rw [hM, hN, List.drop_eq_getElem_cons (by omega)]; rfl
      obtain ⟨Q, hQ⟩ : ∃ Q, Q = 256 * N := ⟨_, rfl⟩
      have hb := (s[k]'hks).toNat_lt
      obtain ⟨hw1, hw2, hw3, hw4⟩ := get_step N Q M (s[k]'hks).toNat hQ hMN hN48 hb
      have hw5 := get_back k (by omega)
      have HJ := Box.mk (And.intro hj hM)
      rw [← hN]
      clear hN hN48 hMN hQ hb hj hM h1 h7
      go_wp2_with fail
      exact ⟨⟨k, by have := HJ.out.1; omega, rfl, by rw [← HJ.out.2], trivial⟩, by simp [intOf]⟩
/-- So many bytes are laid over a list's, from a place on. -/
def layL (L : List UInt8) (o : Nat) (N : List UInt8) : List UInt8 := L.take o ++ N ++ L.drop (o + N.length)
theorem layL_len {L : List UInt8} {o : Nat} {N : List UInt8} (h : o + N.length ≤ L.length) : (layL L o N).length = L.length := by
  unfold layL; simp; omega
theorem page_lay (a b c : List UInt8) (x y z : UInt8) (ha : a.length = 6) (hb : b.length = 3) (hc : c.length = 3) :
    (layL (layL ((((layL ((List.replicate 64 255).set 0 66) 1 a).set 7 x).set 8 y).set 9 z) 10 b) 13 c).set 63 0 = 66 :: (a ++ x :: y :: z :: (b ++ c)) ++ (List.replicate 47 255 ++ [0]) := by
  match a, ha with
  | [a0, a1, a2, a3, a4, a5], _ =>
    match b, hb with
    | [b0, b1, b2], _ =>
      match c, hc with
      | [c0, c1, c2], _ => rfl
theorem row_set {w : World} {g : Nat} {L : List UInt8} (h : w.heap[g]? = some (.cells (L.map bval).toArray 5 (0, 0))) (i : Nat) (u : UInt8) (n : Int) (hn : n = (u.toNat : Int)) :
    (w.setCell ⟨g, i, none⟩ (.int .u8 n)).heap[g]? = some (.cells ((L.set i u).map bval).toArray 5 (0, 0)) := by
  rw [heap_setCell_same _ _ _ _ _ _ h, List.setIfInBounds_toArray, List.map_set, hn]; rfl
theorem row_lay {w : World} {g : Nat} {L : List UInt8} (h : w.heap[g]? = some (.cells (L.map bval).toArray 5 (0, 0))) (o : Nat) (N : ByteArray) :
    (w.setRow g ((L.map bval).toArray.toList.take o ++ (N.data.toList.take N.size).map bval ++ (L.map bval).toArray.toList.drop (o + N.size)).toArray).heap[g]? = some (.cells ((layL L o N.data.toList).map bval).toArray 5 (0, 0)) := by
  rw [setRow_heap _ _ _ _ _ _ h]
  congr 2
  unfold layL
  have hN : N.data.toList.length = N.size := by simp
  rw [show N.data.toList.take N.size = N.data.toList from List.take_of_length_le (by omega), hN]
  simp [List.map_take, List.map_drop]
theorem row_at {w : World} {g : Nat} {L : List UInt8} (h : w.heap[g]? = some (.cells (L.map bval).toArray 5 (0, 0))) (i : Nat) (hi : i < L.length) : (∃ u : UInt8, w.cell? ⟨g, i, none⟩ = some (.int .u8 (u.toNat : Int))) ∧ w.frozen? ⟨g, i, none⟩ = false :=
  ⟨⟨L[i], by rw [cell_of_row _ _ _ _ _ _ h, List.getElem?_toArray, List.getElem?_map, List.getElem?_eq_getElem hi]; rfl⟩, frozen_of_row _ _ _ _ _ h⟩
set_option maxHeartbeats 4000000 in
theorem rpage_any (r : BR) (n : Nat) (hr : r.May) (hn : n < 281474976710656) (w : World) : Calls Tryz.prog 74 #[brV r, .int .i64 (n : Int)] w fun e w' => e = .returned (.string ⟨(pageB r n).toArray⟩) ∧ Below w.heap.size w w' := by
  have PU := Box.mk (fun w => rcput_any n 6 (by omega) (by rw [show (256 : Nat) ^ 6 = 281474976710656 from rfl]; exact hn) w)
  obtain ⟨sl, up, ct, s0, s1⟩ := r
  obtain ⟨h1, h2, h3, h4⟩ := hr
  dsimp only at h1 h2 h3 h4
  obtain ⟨sl, rfl⟩ : ∃ x : Nat, sl = (x : Int) := ⟨sl.toNat, by omega⟩
  obtain ⟨ct, rfl⟩ : ∃ x : Nat, ct = (x : Int) := ⟨ct.toNat, by omega⟩
  obtain ⟨s0, rfl⟩ : ∃ x : Nat, s0 = (x : Int) := ⟨s0.toNat, by omega⟩
  obtain ⟨s1, rfl⟩ : ∃ x : Nat, s1 = (x : Int) := ⟨s1.toNat, by omega⟩
  have PA := Box.mk (fun w => rcput_any s0 3 (by omega) (by rw [show (256 : Nat) ^ 3 = 16777216 from rfl]; omega) w)
  have PB := Box.mk (fun w => rcput_any s1 3 (by omega) (by rw [show (256 : Nat) ^ 3 = 16777216 from rfl]; omega) w)
  obtain ⟨N6, hN6⟩ : ∃ N : ByteArray, N = ⟨(leList 6 n).toArray⟩ := ⟨_, rfl⟩
  obtain ⟨NA, hNA⟩ : ∃ N : ByteArray, N = ⟨(leList 3 s0).toArray⟩ := ⟨_, rfl⟩
  obtain ⟨NB, hNB⟩ : ∃ N : ByteArray, N = ⟨(leList 3 s1).toArray⟩ := ⟨_, rfl⟩
  rw [← hN6] at PU; rw [← hNA] at PA; rw [← hNB] at PB
  have hl6 : N6.data.toList.length = 6 := by rw [hN6]; exact leList_length _ _
  have hlA : NA.data.toList.length = 3 := by rw [hNA]; exact leList_length _ _
  have hlB : NB.data.toList.length = 3 := by rw [hNB]; exact leList_length _ _
  have hs6 : N6.size = 6 := by rw [← hl6]; simp
  have hsA : NA.size = 3 := by rw [← hlA]; simp
  have hsB : NB.size = 3 := by rw [← hlB]; simp
  obtain ⟨uu, HU⟩ : ∃ u : UInt8, Box (u = if up then 1 else 0) := ⟨_, ⟨rfl⟩⟩
  obtain ⟨us, hus⟩ : ∃ u : UInt8, u = UInt8.ofNat sl := ⟨_, rfl⟩
  obtain ⟨uc, huc⟩ : ∃ u : UInt8, u = UInt8.ofNat ct := ⟨_, rfl⟩
  have hws : IntKind.u8.wrap (sl : Int) = (us.toNat : Int) := by rw [hus, UInt8.toNat_ofNat', IntKind.wrap_u8]; omega
  have hwc : IntKind.u8.wrap (ct : Int) = (uc.toNat : Int) := by rw [huc, UInt8.toNat_ofNat', IntKind.wrap_u8]; omega
  have FIN : Box ((layL (layL ((((layL ((List.replicate 64 255).set 0 66) 1 N6.data.toList).set 7 us).set 8 uu).set 9 uc) 10 NA.data.toList) 13 NB.data.toList).set 63 0 = pageB ⟨(sl : Int), up, (ct : Int), (s0 : Int), (s1 : Int)⟩ n) := ⟨by
    rw [page_lay _ _ _ _ _ _ hl6 hlA hlB, HU.out, hus, huc, hN6, hNA, hNB]; rfl⟩
  have HL6 := Box.mk hl6; have HLA := Box.mk hlA; have HLB := Box.mk hlB
  have hmk := fun w => make_bytes 64 64 rfl (by omega) w
  have HINF : Box ((Tryz.prog.info? 5).map (·.size) = some 1) := ⟨by kernel_rfl⟩
  clear hn hN6 hNA hNB hus huc hl6 hlA hlB h1 h2 h3 h4
  obtain ⟨V, hV⟩ : ∃ V, V = pageB ⟨(sl : Int), up, (ct : Int), (s0 : Int), (s1 : Int)⟩ n := ⟨_, rfl⟩
  rw [← hV] at FIN ⊢
  clear hV
  unfold brV brC
  obtain ⟨b0, hb0⟩ : ∃ b0, b0 = w.heap.size := ⟨_, rfl⟩
  obtain ⟨W0, hW0⟩ : ∃ W0, W0 = w.alloc (.cells #[.int .i64 (sl : Int), .bool up, .int .i64 (ct : Int), .int .i64 (s0 : Int), .int .i64 (s1 : Int)] 24) := ⟨_, rfl⟩
  have hr0 : W0.heap[b0]? = some (.cells #[.int .i64 (sl : Int), .bool up, .int .i64 (ct : Int), .int .i64 (s0 : Int), .int .i64 (s1 : Int)] 24 (0, 0)) := by rw [hW0, hb0]; exact heap_alloc_new _ _
  have hbw : Below b0 w W0 := by rw [hW0, hb0]; exact (Below.refl _ w).alloc (Nat.le_refl _) _
  have hs0 : W0.heap.size = b0 + 1 := by rw [hW0, hb0]; simp
  have PK := Box.mk (fun (wx : World) (h : Below (b0 + 1) W0 wx) => (show Below b0 w wx ∧ (wx.cell? ⟨b0, 0, none⟩ = some (.int .i64 (sl : Int)) ∧ wx.cell? ⟨b0, 1, none⟩ = some (.bool up) ∧ wx.cell? ⟨b0, 2, none⟩ = some (.int .i64 (ct : Int)) ∧ wx.cell? ⟨b0, 3, none⟩ = some (.int .i64 (s0 : Int)) ∧ wx.cell? ⟨b0, 4, none⟩ = some (.int .i64 (s1 : Int))) from
    ⟨hbw.trans (h.mono (by omega)), by
      have hh := (h.block b0 (by omega)).trans hr0
      refine ⟨?_, ?_, ?_, ?_, ?_⟩ <;> (rw [cell_of_row _ _ _ _ _ _ hh]; rfl)⟩))
  have HS0 := Box.mk hs0; have HB0 := Box.mk hb0
  clear hr0 hbw
  go_enter Tryz.func74, Tryz.ntmps74
  obtain ⟨g, hg⟩ : ∃ g, g = b0 + 1 := ⟨_, rfl⟩
  go_wp2_with fail
  rw [← hW0, ← hb0, ← hg]
  have HG0 := Box.mk (show g = W0.heap.size by rw [hs0, hg])
  rw [← hg] at PK
  clear hb0 hW0 hs0 hg
  go_loopw [6] (fun i wr => ∃ m : Nat, m ≤ 64 ∧ i = .int .i64 (m : Nat) ∧ wr.heap[g]? = some (.cells (List.replicate m (bval 255) ++ List.replicate (64 - m) (Value.int .u8 0)).toArray 5 (0, 0)) ∧ Below g W0 wr) (fun i _ => 64 - (intOf i).toNat)
  case atStart => exact ⟨0, by omega, rfl, by rw [HG0.out, heap_alloc_new]; rfl, (Below.refl _ _).alloc (Nat.le_of_eq HG0.out) _⟩
  case round =>
    obtain ⟨m, hm, rfl, hg, hb⟩ := hrel
    have HG := Box.mk hg; have HB := Box.mk hb; clear hb
    by_cases hlt : m < 64
    · have hI : (m : Int) < 64 := by omega
      have e1 : wr.frozen? ⟨g, m, none⟩ = false := frozen_of_row _ _ _ _ _ hg
      have e2 : wr.cell? ⟨g, m, none⟩ = some (.int .u8 0) := by
        rw [cell_of_row _ _ _ _ _ _ hg, List.getElem?_toArray, List.getElem?_append_right (by simp), List.length_replicate, Nat.sub_self, List.getElem?_replicate, if_pos (by omega)]
      clear hg
      go_wp2_with fail
      refine ⟨⟨m + 1, by omega, by go_num, ?_, HB.out.setCell (Nat.le_refl _) _⟩, by simp [intOf]; omega⟩
      rw [heap_setCell_same _ _ _ _ _ _ HG.out, List.setIfInBounds_toArray, fill_step _ _ hlt]
    · obtain rfl : m = 64 := by omega
      clear hg
      have R0 : Box (wr.heap[g]? = some (.cells ((List.replicate 64 (255 : UInt8)).map bval).toArray 5 (0, 0))) := ⟨by rw [HG.out]; congr 2⟩
      clear HG
      obtain ⟨_, k0, k1, k2, k3, k4⟩ := PK.out wr HB.out
      go_wp2_with fail
      refine (PU.out _).mono ?_
      rintro e w1 ⟨rfl, hb⟩
      have R1 := Box.mk ((hb.block g (Array.getElem?_eq_some_iff.1 R0.out).1).trans R0.out)
      have B1 := Box.mk (HB.out.trans (hb.mono (by have := HG0.out; have := HB.out.size; omega)))
      clear hb k0 k1 k2 k3 k4 R0 HB
      obtain ⟨_, k0, k1, k2, k3, k4⟩ := PK.out w1 B1.out
      go_wp2_with fail
      refine (PA.out _).mono ?_
      rintro e w2 ⟨rfl, hb⟩
      have R2 := Box.mk ((hb.block g (Array.getElem?_eq_some_iff.1 R1.out).1).trans R1.out)
      have B2 := Box.mk (B1.out.trans (hb.mono (by have := HG0.out; have := B1.out.size; omega)))
      clear hb k0 k1 k2 k3 k4 R1 B1
      obtain ⟨_, k0, k1, k2, k3, k4⟩ := PK.out w2 B2.out
      go_wp2_with fail
      refine (PB.out _).mono ?_
      rintro e w3 ⟨rfl, hb⟩
      have R3 := Box.mk ((hb.block g (Array.getElem?_eq_some_iff.1 R2.out).1).trans R2.out)
      have B3 := Box.mk (B2.out.trans (hb.mono (by have := HG0.out; have := B2.out.size; omega)))
      clear hb k0 k1 k2 k3 k4 R2 B2
      have HGW := Box.mk (Nat.le_refl g)
      have LEN3 : (List.replicate 64 (255 : UInt8)).length = 64 := List.length_replicate ..
      have hu0 := HU.out
      cases up with
      | false => as_aux_lemma =>
        simp only [Bool.false_eq_true, if_false] at hu0
        subst hu0
        obtain ⟨_, k0, k1, k2, k3, k4⟩ := PK.out w3 B3.out
        obtain ⟨⟨v4, c4⟩, f4⟩ := row_at R3.out 0 (by rw [LEN3]; omega)
        go_upto_region 13 with (fail)
        obtain ⟨w4, hW⟩ : ∃ W, W = w3.setCell ⟨g, 0, none⟩ (.int .u8 66) := ⟨_, rfl⟩
        rw [← hW]
        have R4 := Box.mk (show w4.heap[g]? = _ from hW ▸ row_set R3.out 0 66 66 rfl)
        have B4 := Box.mk (show Below g W0 w4 from hW ▸ B3.out.setCell HGW.out _)
        have LEN4 : ((List.replicate 64 (255 : UInt8)).set 0 66).length = 64 := by rw [List.length_set]; exact LEN3
        clear hW c4 f4 R3 B3
        have HMM : Box (N6.size = min N6.size 63) := ⟨by omega⟩
        have HFIT : Box (1 + N6.size ≤ (((List.replicate 64 (255 : UInt8)).set 0 66).map bval).toArray.size) := ⟨by rw [List.size_toArray, List.length_map, LEN4]; omega⟩
        obtain ⟨w5, hW⟩ : ∃ W, W = w4.setRow g ((((List.replicate 64 (255 : UInt8)).set 0 66).map bval).toArray.toList.take 1 ++ (N6.data.toList.take N6.size).map bval ++ (((List.replicate 64 (255 : UInt8)).set 0 66).map bval).toArray.toList.drop (1 + N6.size)).toArray := ⟨_, rfl⟩
        have HWW := Box.mk hW
        have R5 := Box.mk (show w5.heap[g]? = _ from hW ▸ row_lay R4.out 1 N6)
        have B5 := Box.mk (show Below g W0 w5 from hW ▸ below_setRow B4.out HGW.out _)
        have LEN5 : (layL ((List.replicate 64 (255 : UInt8)).set 0 66) 1 N6.data.toList).length = 64 := by rw [layL_len (by rw [LEN4, HL6.out]; omega)]; exact LEN4
        clear hW
        go_upto_region 14 with ((with_reducible refine wpList_copy_str rfl (.tmp 46) (.tmp 47) 42 9 rfl 5 Tryz.underlying42 HINF.out g 1 63 63 N6 rfl rfl _ 5 R4.out N6.size HMM.out HFIT.out w5 HWW.out ?_))
        clear R4 B4 HWW HMM HFIT
        clear k0 k1 k2 k3 k4
        obtain ⟨_, k0, k1, k2, k3, k4⟩ := PK.out w5 B5.out
        obtain ⟨⟨v6, c6⟩, f6⟩ := row_at R5.out 7 (by rw [LEN5]; omega)
        go_upto_region 15 with (fail)
        obtain ⟨w6, hW⟩ : ∃ W, W = w5.setCell ⟨g, 7, none⟩ (.int .u8 (us.toNat : Int)) := ⟨_, rfl⟩
        rw [← hW]
        have R6 := Box.mk (show w6.heap[g]? = _ from hW ▸ row_set R5.out 7 us (us.toNat : Int) rfl)
        have B6 := Box.mk (show Below g W0 w6 from hW ▸ B5.out.setCell HGW.out _)
        have LEN6 : ((layL ((List.replicate 64 (255 : UInt8)).set 0 66) 1 N6.data.toList).set 7 us).length = 64 := by rw [List.length_set]; exact LEN5
        clear hW c6 f6 R5 B5
        clear k0 k1 k2 k3 k4
        obtain ⟨_, k0, k1, k2, k3, k4⟩ := PK.out w6 B6.out
        have h8a : IntKind.u8.wrap 0 = 0 := by decide
        have h8b : IntKind.u8.wrap 1 = 1 := by decide
        obtain ⟨⟨v7, c7⟩, f7⟩ := row_at R6.out 8 (by rw [LEN6]; omega)
        go_upto_region 16 with (fail)
        obtain ⟨w7, hW⟩ : ∃ W, W = w6.setCell ⟨g, 8, none⟩ (.int .u8 0) := ⟨_, rfl⟩
        rw [← hW]
        have R7 := Box.mk (show w7.heap[g]? = _ from hW ▸ row_set R6.out 8 0 0 rfl)
        have B7 := Box.mk (show Below g W0 w7 from hW ▸ B6.out.setCell HGW.out _)
        have LEN7 : (((layL ((List.replicate 64 (255 : UInt8)).set 0 66) 1 N6.data.toList).set 7 us).set 8 0).length = 64 := by rw [List.length_set]; exact LEN6
        clear hW c7 f7 R6 B6
        clear k0 k1 k2 k3 k4
        obtain ⟨_, k0, k1, k2, k3, k4⟩ := PK.out w7 B7.out
        obtain ⟨⟨v8, c8⟩, f8⟩ := row_at R7.out 9 (by rw [LEN7]; omega)
        go_upto_region 17 with (fail)
        obtain ⟨w8, hW⟩ : ∃ W, W = w7.setCell ⟨g, 9, none⟩ (.int .u8 (uc.toNat : Int)) := ⟨_, rfl⟩
        rw [← hW]
        have R8 := Box.mk (show w8.heap[g]? = _ from hW ▸ row_set R7.out 9 uc (uc.toNat : Int) rfl)
        have B8 := Box.mk (show Below g W0 w8 from hW ▸ B7.out.setCell HGW.out _)
        have LEN8 : ((((layL ((List.replicate 64 (255 : UInt8)).set 0 66) 1 N6.data.toList).set 7 us).set 8 0).set 9 uc).length = 64 := by rw [List.length_set]; exact LEN7
        clear hW c8 f8 R7 B7
        clear k0 k1 k2 k3 k4
        have HMM : Box (NA.size = min NA.size 54) := ⟨by omega⟩
        have HFIT : Box (10 + NA.size ≤ (((((layL ((List.replicate 64 (255 : UInt8)).set 0 66) 1 N6.data.toList).set 7 us).set 8 0).set 9 uc).map bval).toArray.size) := ⟨by rw [List.size_toArray, List.length_map, LEN8]; omega⟩
        obtain ⟨w9, hW⟩ : ∃ W, W = w8.setRow g ((((((layL ((List.replicate 64 (255 : UInt8)).set 0 66) 1 N6.data.toList).set 7 us).set 8 0).set 9 uc).map bval).toArray.toList.take 10 ++ (NA.data.toList.take NA.size).map bval ++ (((((layL ((List.replicate 64 (255 : UInt8)).set 0 66) 1 N6.data.toList).set 7 us).set 8 0).set 9 uc).map bval).toArray.toList.drop (10 + NA.size)).toArray := ⟨_, rfl⟩
        have HWW := Box.mk hW
        have R9 := Box.mk (show w9.heap[g]? = _ from hW ▸ row_lay R8.out 10 NA)
        have B9 := Box.mk (show Below g W0 w9 from hW ▸ below_setRow B8.out HGW.out _)
        have LEN9 : (layL ((((layL ((List.replicate 64 (255 : UInt8)).set 0 66) 1 N6.data.toList).set 7 us).set 8 0).set 9 uc) 10 NA.data.toList).length = 64 := by rw [layL_len (by rw [LEN8, HLA.out]; omega)]; exact LEN8
        clear hW
        go_upto_region 18 with ((with_reducible refine wpList_copy_str rfl (.tmp 64) (.tmp 65) 42 9 rfl 5 Tryz.underlying42 HINF.out g 10 54 54 NA rfl rfl _ 5 R8.out NA.size HMM.out HFIT.out w9 HWW.out ?_))
        clear R8 B8 HWW HMM HFIT
        have HMM : Box (NB.size = min NB.size 51) := ⟨by omega⟩
        have HFIT : Box (13 + NB.size ≤ ((layL ((((layL ((List.replicate 64 (255 : UInt8)).set 0 66) 1 N6.data.toList).set 7 us).set 8 0).set 9 uc) 10 NA.data.toList).map bval).toArray.size) := ⟨by rw [List.size_toArray, List.length_map, LEN9]; omega⟩
        obtain ⟨w10, hW⟩ : ∃ W, W = w9.setRow g (((layL ((((layL ((List.replicate 64 (255 : UInt8)).set 0 66) 1 N6.data.toList).set 7 us).set 8 0).set 9 uc) 10 NA.data.toList).map bval).toArray.toList.take 13 ++ (NB.data.toList.take NB.size).map bval ++ ((layL ((((layL ((List.replicate 64 (255 : UInt8)).set 0 66) 1 N6.data.toList).set 7 us).set 8 0).set 9 uc) 10 NA.data.toList).map bval).toArray.toList.drop (13 + NB.size)).toArray := ⟨_, rfl⟩
        have HWW := Box.mk hW
        have R10 := Box.mk (show w10.heap[g]? = _ from hW ▸ row_lay R9.out 13 NB)
        have B10 := Box.mk (show Below g W0 w10 from hW ▸ below_setRow B9.out HGW.out _)
        have LEN10 : (layL (layL ((((layL ((List.replicate 64 (255 : UInt8)).set 0 66) 1 N6.data.toList).set 7 us).set 8 0).set 9 uc) 10 NA.data.toList) 13 NB.data.toList).length = 64 := by rw [layL_len (by rw [LEN9, HLB.out]; omega)]; exact LEN9
        clear hW
        go_upto_region 19 with ((with_reducible refine wpList_copy_str rfl (.tmp 68) (.tmp 69) 42 9 rfl 5 Tryz.underlying42 HINF.out g 13 51 51 NB rfl rfl _ 5 R9.out NB.size HMM.out HFIT.out w10 HWW.out ?_))
        clear R9 B9 HWW HMM HFIT
        obtain ⟨⟨v11, c11⟩, f11⟩ := row_at R10.out 63 (by rw [LEN10]; omega)
        go_upto_region 20 with (fail)
        obtain ⟨w11, hW⟩ : ∃ W, W = w10.setCell ⟨g, 63, none⟩ (.int .u8 0) := ⟨_, rfl⟩
        rw [← hW]
        have R11 := Box.mk (show w11.heap[g]? = _ from hW ▸ row_set R10.out 63 0 0 rfl)
        have B11 := Box.mk (show Below g W0 w11 from hW ▸ B10.out.setCell HGW.out _)
        have LEN11 : ((layL (layL ((((layL ((List.replicate 64 (255 : UInt8)).set 0 66) 1 N6.data.toList).set 7 us).set 8 0).set 9 uc) 10 NA.data.toList) 13 NB.data.toList).set 63 0).length = 64 := by rw [List.length_set]; exact LEN10
        clear hW c11 f11 R10 B10
        have hcv := run_bytes_at Tryz.prog w11 g 0 64 V 42 9 5 64 (by rw [← FIN.out]; exact LEN11) Tryz.underlying42 Tryz.underlying5 Tryz.underlying9 (fun i u hu => by
          rw [Nat.zero_add, cell_of_row _ _ _ _ _ _ R11.out, List.getElem?_toArray, List.getElem?_map, FIN.out, hu]; rfl)
        obtain ⟨b9, _⟩ := PK.out w11 B11.out
        go_wp2_with fail
        go_ret
        exact ⟨rfl, b9.mono (Nat.le_of_eq HB0.out.symm)⟩
      | true => as_aux_lemma =>
        simp only [if_true] at hu0
        subst hu0
        obtain ⟨_, k0, k1, k2, k3, k4⟩ := PK.out w3 B3.out
        obtain ⟨⟨v4, c4⟩, f4⟩ := row_at R3.out 0 (by rw [LEN3]; omega)
        go_upto_region 13 with (fail)
        obtain ⟨w4, hW⟩ : ∃ W, W = w3.setCell ⟨g, 0, none⟩ (.int .u8 66) := ⟨_, rfl⟩
        rw [← hW]
        have R4 := Box.mk (show w4.heap[g]? = _ from hW ▸ row_set R3.out 0 66 66 rfl)
        have B4 := Box.mk (show Below g W0 w4 from hW ▸ B3.out.setCell HGW.out _)
        have LEN4 : ((List.replicate 64 (255 : UInt8)).set 0 66).length = 64 := by rw [List.length_set]; exact LEN3
        clear hW c4 f4 R3 B3
        have HMM : Box (N6.size = min N6.size 63) := ⟨by omega⟩
        have HFIT : Box (1 + N6.size ≤ (((List.replicate 64 (255 : UInt8)).set 0 66).map bval).toArray.size) := ⟨by rw [List.size_toArray, List.length_map, LEN4]; omega⟩
        obtain ⟨w5, hW⟩ : ∃ W, W = w4.setRow g ((((List.replicate 64 (255 : UInt8)).set 0 66).map bval).toArray.toList.take 1 ++ (N6.data.toList.take N6.size).map bval ++ (((List.replicate 64 (255 : UInt8)).set 0 66).map bval).toArray.toList.drop (1 + N6.size)).toArray := ⟨_, rfl⟩
        have HWW := Box.mk hW
        have R5 := Box.mk (show w5.heap[g]? = _ from hW ▸ row_lay R4.out 1 N6)
        have B5 := Box.mk (show Below g W0 w5 from hW ▸ below_setRow B4.out HGW.out _)
        have LEN5 : (layL ((List.replicate 64 (255 : UInt8)).set 0 66) 1 N6.data.toList).length = 64 := by rw [layL_len (by rw [LEN4, HL6.out]; omega)]; exact LEN4
        clear hW
        go_upto_region 14 with ((with_reducible refine wpList_copy_str rfl (.tmp 46) (.tmp 47) 42 9 rfl 5 Tryz.underlying42 HINF.out g 1 63 63 N6 rfl rfl _ 5 R4.out N6.size HMM.out HFIT.out w5 HWW.out ?_))
        clear R4 B4 HWW HMM HFIT
        clear k0 k1 k2 k3 k4
        obtain ⟨_, k0, k1, k2, k3, k4⟩ := PK.out w5 B5.out
        obtain ⟨⟨v6, c6⟩, f6⟩ := row_at R5.out 7 (by rw [LEN5]; omega)
        go_upto_region 15 with (fail)
        obtain ⟨w6, hW⟩ : ∃ W, W = w5.setCell ⟨g, 7, none⟩ (.int .u8 (us.toNat : Int)) := ⟨_, rfl⟩
        rw [← hW]
        have R6 := Box.mk (show w6.heap[g]? = _ from hW ▸ row_set R5.out 7 us (us.toNat : Int) rfl)
        have B6 := Box.mk (show Below g W0 w6 from hW ▸ B5.out.setCell HGW.out _)
        have LEN6 : ((layL ((List.replicate 64 (255 : UInt8)).set 0 66) 1 N6.data.toList).set 7 us).length = 64 := by rw [List.length_set]; exact LEN5
        clear hW c6 f6 R5 B5
        clear k0 k1 k2 k3 k4
        obtain ⟨_, k0, k1, k2, k3, k4⟩ := PK.out w6 B6.out
        have h8a : IntKind.u8.wrap 0 = 0 := by decide
        have h8b : IntKind.u8.wrap 1 = 1 := by decide
        obtain ⟨⟨v7, c7⟩, f7⟩ := row_at R6.out 8 (by rw [LEN6]; omega)
        go_upto_region 16 with (fail)
        obtain ⟨w7, hW⟩ : ∃ W, W = w6.setCell ⟨g, 8, none⟩ (.int .u8 1) := ⟨_, rfl⟩
        rw [← hW]
        have R7 := Box.mk (show w7.heap[g]? = _ from hW ▸ row_set R6.out 8 1 1 rfl)
        have B7 := Box.mk (show Below g W0 w7 from hW ▸ B6.out.setCell HGW.out _)
        have LEN7 : (((layL ((List.replicate 64 (255 : UInt8)).set 0 66) 1 N6.data.toList).set 7 us).set 8 1).length = 64 := by rw [List.length_set]; exact LEN6
        clear hW c7 f7 R6 B6
        clear k0 k1 k2 k3 k4
        obtain ⟨_, k0, k1, k2, k3, k4⟩ := PK.out w7 B7.out
        obtain ⟨⟨v8, c8⟩, f8⟩ := row_at R7.out 9 (by rw [LEN7]; omega)
        go_upto_region 17 with (fail)
        obtain ⟨w8, hW⟩ : ∃ W, W = w7.setCell ⟨g, 9, none⟩ (.int .u8 (uc.toNat : Int)) := ⟨_, rfl⟩
        rw [← hW]
        have R8 := Box.mk (show w8.heap[g]? = _ from hW ▸ row_set R7.out 9 uc (uc.toNat : Int) rfl)
        have B8 := Box.mk (show Below g W0 w8 from hW ▸ B7.out.setCell HGW.out _)
        have LEN8 : ((((layL ((List.replicate 64 (255 : UInt8)).set 0 66) 1 N6.data.toList).set 7 us).set 8 1).set 9 uc).length = 64 := by rw [List.length_set]; exact LEN7
        clear hW c8 f8 R7 B7
        clear k0 k1 k2 k3 k4
        have HMM : Box (NA.size = min NA.size 54) := ⟨by omega⟩
        have HFIT : Box (10 + NA.size ≤ (((((layL ((List.replicate 64 (255 : UInt8)).set 0 66) 1 N6.data.toList).set 7 us).set 8 1).set 9 uc).map bval).toArray.size) := ⟨by rw [List.size_toArray, List.length_map, LEN8]; omega⟩
        obtain ⟨w9, hW⟩ : ∃ W, W = w8.setRow g ((((((layL ((List.replicate 64 (255 : UInt8)).set 0 66) 1 N6.data.toList).set 7 us).set 8 1).set 9 uc).map bval).toArray.toList.take 10 ++ (NA.data.toList.take NA.size).map bval ++ (((((layL ((List.replicate 64 (255 : UInt8)).set 0 66) 1 N6.data.toList).set 7 us).set 8 1).set 9 uc).map bval).toArray.toList.drop (10 + NA.size)).toArray := ⟨_, rfl⟩
        have HWW := Box.mk hW
        have R9 := Box.mk (show w9.heap[g]? = _ from hW ▸ row_lay R8.out 10 NA)
        have B9 := Box.mk (show Below g W0 w9 from hW ▸ below_setRow B8.out HGW.out _)
        have LEN9 : (layL ((((layL ((List.replicate 64 (255 : UInt8)).set 0 66) 1 N6.data.toList).set 7 us).set 8 1).set 9 uc) 10 NA.data.toList).length = 64 := by rw [layL_len (by rw [LEN8, HLA.out]; omega)]; exact LEN8
        clear hW
        go_upto_region 18 with ((with_reducible refine wpList_copy_str rfl (.tmp 64) (.tmp 65) 42 9 rfl 5 Tryz.underlying42 HINF.out g 10 54 54 NA rfl rfl _ 5 R8.out NA.size HMM.out HFIT.out w9 HWW.out ?_))
        clear R8 B8 HWW HMM HFIT
        have HMM : Box (NB.size = min NB.size 51) := ⟨by omega⟩
        have HFIT : Box (13 + NB.size ≤ ((layL ((((layL ((List.replicate 64 (255 : UInt8)).set 0 66) 1 N6.data.toList).set 7 us).set 8 1).set 9 uc) 10 NA.data.toList).map bval).toArray.size) := ⟨by rw [List.size_toArray, List.length_map, LEN9]; omega⟩
        obtain ⟨w10, hW⟩ : ∃ W, W = w9.setRow g (((layL ((((layL ((List.replicate 64 (255 : UInt8)).set 0 66) 1 N6.data.toList).set 7 us).set 8 1).set 9 uc) 10 NA.data.toList).map bval).toArray.toList.take 13 ++ (NB.data.toList.take NB.size).map bval ++ ((layL ((((layL ((List.replicate 64 (255 : UInt8)).set 0 66) 1 N6.data.toList).set 7 us).set 8 1).set 9 uc) 10 NA.data.toList).map bval).toArray.toList.drop (13 + NB.size)).toArray := ⟨_, rfl⟩
        have HWW := Box.mk hW
        have R10 := Box.mk (show w10.heap[g]? = _ from hW ▸ row_lay R9.out 13 NB)
        have B10 := Box.mk (show Below g W0 w10 from hW ▸ below_setRow B9.out HGW.out _)
        have LEN10 : (layL (layL ((((layL ((List.replicate 64 (255 : UInt8)).set 0 66) 1 N6.data.toList).set 7 us).set 8 1).set 9 uc) 10 NA.data.toList) 13 NB.data.toList).length = 64 := by rw [layL_len (by rw [LEN9, HLB.out]; omega)]; exact LEN9
        clear hW
        go_upto_region 19 with ((with_reducible refine wpList_copy_str rfl (.tmp 68) (.tmp 69) 42 9 rfl 5 Tryz.underlying42 HINF.out g 13 51 51 NB rfl rfl _ 5 R9.out NB.size HMM.out HFIT.out w10 HWW.out ?_))
        clear R9 B9 HWW HMM HFIT
        obtain ⟨⟨v11, c11⟩, f11⟩ := row_at R10.out 63 (by rw [LEN10]; omega)
        go_upto_region 20 with (fail)
        obtain ⟨w11, hW⟩ : ∃ W, W = w10.setCell ⟨g, 63, none⟩ (.int .u8 0) := ⟨_, rfl⟩
        rw [← hW]
        have R11 := Box.mk (show w11.heap[g]? = _ from hW ▸ row_set R10.out 63 0 0 rfl)
        have B11 := Box.mk (show Below g W0 w11 from hW ▸ B10.out.setCell HGW.out _)
        have LEN11 : ((layL (layL ((((layL ((List.replicate 64 (255 : UInt8)).set 0 66) 1 N6.data.toList).set 7 us).set 8 1).set 9 uc) 10 NA.data.toList) 13 NB.data.toList).set 63 0).length = 64 := by rw [List.length_set]; exact LEN10
        clear hW c11 f11 R10 B10
        have hcv := run_bytes_at Tryz.prog w11 g 0 64 V 42 9 5 64 (by rw [← FIN.out]; exact LEN11) Tryz.underlying42 Tryz.underlying5 Tryz.underlying9 (fun i u hu => by
          rw [Nat.zero_add, cell_of_row _ _ _ _ _ _ R11.out, List.getElem?_toArray, List.getElem?_map, FIN.out, hu]; rfl)
        obtain ⟨b9, _⟩ := PK.out w11 B11.out
        go_wp2_with fail
        go_ret
        exact ⟨rfl, b9.mono (Nat.le_of_eq HB0.out.symm)⟩
end Go.Proofs.YtgcbmjflodgnbaaGreatDoor
namespace Go.Proofs.YtgcbmjflodgnbaaGreatDoor
set_option maxRecDepth 100000
set_option linter.unusedVariables false
open Go Go.RowKit

set_option maxHeartbeats 1000000 in
theorem rbclean_any (g q p bb cb F : Nat) (s : FS) (t : BS) (k : Nat) (w : World) (h : RBtS w F g q p bb cb s t) (hk : k ≤ 256) :
    Calls Tryz.prog 55 #[.pointer (some ⟨g, 0, none⟩), .int .i64 k] w fun e w' => e = .returned (.int .i64 (s.bclean F t k).2.2) ∧ RBtS w' F g q p bb cb (s.bclean F t k).1 (s.bclean F t k).2.1 ∧ Upd [g, p, bb, cb] w w' := by
  obtain ⟨c0, _, _, _, _, _, _, _, _⟩ := h.bt.cells
  obtain ⟨a, ha, HA⟩ : ∃ x : Nat, IntKind.i64.wrap (512 * (k : Int)) = (x : Int) ∧ Box (x = 512 * k) := ⟨512 * k, by rw [IntKind.wrap_i64]; omega, ⟨rfl⟩⟩
  have PC := Box.mk (fun w (h : RBtS w F g q p bb cb s t) => rpclean_any q p bb cb F 2 s (a : Nat) 512 w h.f h.ok h.pa h.i (by have := HA.out; omega) (by omega))
  rw [HA.out] at PC
  have PE := Box.mk (fun w (h : RBtS w F g q p bb cb s t) => rperase_any q p bb cb F 2 s (k : Int) w h.f h.ok h.pa h.i)
  have TD := Box.mk (fun s w (h : RBtS w F g q p bb cb s t) e => rbtold_any g q t e w h.bt)
  have HC := Box.mk (show s.wclean F 2 k = if (pcleanV s F 2 (512 * k : Nat) 512).2 ≠ 0 then (s, (pcleanV s F 2 (512 * k : Nat) 512).2) else if (pcleanV s F 2 (512 * k : Nat) 512).1 = true then (s, 0) else s.perase F 2 k from rfl)
  have EO := Box.mk (FS.perase_ok h.ok F 2 k)
  unfold FS.bclean
  generalize s.wclean F 2 k = c at HC ⊢
  generalize s.perase F 2 (k : Int) = r at PE HC EO
  generalize pcleanV s F 2 ((512 * k : Nat) : Int) 512 = x at PC HC
  obtain ⟨x1, x2⟩ := x
  obtain ⟨r1, r2⟩ := r
  dsimp only at PC HC PE EO ⊢
  rw [← HA.out] at PC
  have H := Box.mk h
  have hkI : (k : Int) ≤ 256 := by omega
  clear h hk
  by_cases hx : x2 = 0
  · have hxb : (x2 == 0) = true := by simpa using hx
    have hc := HC.out
    rw [if_neg (by simpa using hx)] at hc
    cases x1 with
    | true =>
      rw [if_pos rfl] at hc
      subst hx
      subst hc
      dsimp only
      clear HC PE EO
      go_enter Tryz.func55, Tryz.ntmps55
      go_wp2_with fail
      refine (PC.out _ H.out).mono ?_
      rintro e w1 ⟨rfl, u1⟩
      have H1 := Box.mk (H.out.keep u1); have U1 := Box.mk (u1.mono (T := [g, p, bb, cb]) (by simp)); clear u1
      go_wp2_with fail
      refine (TD.out _ _ H1.out _).mono ?_
      rintro e w1 ⟨rfl, hl, hu⟩
      have L1 := Box.mk (H1.out.own hl hu); have U2 := Box.mk (U1.out.trans (hu.mono (T := [g, p, bb, cb]) (by simp))); clear hl hu
      go_wp2_with fail
      go_ret
      exact ⟨rfl, L1.out, U2.out⟩
    | false =>
      rw [if_neg (by simp)] at hc
      subst hc
      dsimp only
      clear HC
      go_enter Tryz.func55, Tryz.ntmps55
      go_wp2_with fail
      refine (PC.out _ H.out).mono ?_
      rintro e w1 ⟨rfl, u1⟩
      have H1 := Box.mk (H.out.keep u1); have U1 := Box.mk (u1.mono (T := [g, p, bb, cb]) (by simp)); clear u1
      obtain ⟨d0, _, _, _, _, _, _, _, _⟩ := H1.out.bt.cells
      go_wp2_with fail
      refine (PE.out _ H1.out).mono ?_
      rintro e w2 ⟨rfl, hf, hu⟩
      have H2 := Box.mk (H1.out.flash hf EO.out.1 EO.out.2 hu); have U2 := Box.mk (U1.out.trans (hu.mono (T := [g, p, bb, cb]) (by simp))); clear hf hu
      go_wp2_with fail
      refine (TD.out _ _ H2.out _).mono ?_
      rintro e w1 ⟨rfl, hl, hu⟩
      have L1 := Box.mk (H2.out.own hl hu); have U3 := Box.mk (U2.out.trans (hu.mono (T := [g, p, bb, cb]) (by simp))); clear hl hu
      go_wp2_with fail
      go_ret
      exact ⟨rfl, L1.out, U3.out⟩
  · have hxb : (x2 == 0) = false := by rw [beq_eq_false_iff_ne]; exact hx
    have hc := HC.out
    rw [if_pos hx] at hc
    subst hc
    dsimp only
    clear HC PE EO hx
    go_enter Tryz.func55, Tryz.ntmps55
    go_wp2_with fail
    refine (PC.out _ H.out).mono ?_
    rintro e w1 ⟨rfl, u1⟩
    have H1 := Box.mk (H.out.keep u1); have U1 := Box.mk (u1.mono (T := [g, p, bb, cb]) (by simp)); clear u1
    go_wp2_with fail
    refine (TD.out _ _ H1.out _).mono ?_
    rintro e w1 ⟨rfl, hl, hu⟩
    have L1 := Box.mk (H1.out.own hl hu); have U2 := Box.mk (U1.out.trans (hu.mono (T := [g, p, bb, cb]) (by simp))); clear hl hu
    go_wp2_with fail
    go_ret
    exact ⟨rfl, L1.out, U2.out⟩
theorem rbpwrite_any (g q p bb cb F : Nat) (s : FS) (t : BS) (a : Nat) (l : List UInt8) (w : World) (h : RBtS w F g q p bb cb s t) (ha : a ≤ 1000000) (hl : l.length ≤ 1000000) :
    Calls Tryz.prog 76 #[.pointer (some ⟨q, 0, none⟩), .int .i64 (a : Nat), .string ⟨l.toArray⟩] w fun e w' => e = .returned (.int .i64 (s.pwrite F 2 a l).2) ∧ RBtS w' F g q p bb cb (s.pwrite F 2 a l).1 t ∧ Upd [p, bb, cb] w w' :=
  (rpwrite_any q p bb cb F 2 s a ⟨l.toArray⟩ w h.f h.ok h.pa h.i h.ap.nm.2.2.2.2.2.1 h.ap.nm.2.2.2.2.1 (by omega) (by show (l.toArray.size : Nat) ≤ _; rw [List.size_toArray]; omega)).mono fun e w' ⟨he, hf, hu⟩ => ⟨he, h.flash hf (FS.pwrite_ok h.ok F 2 a _).1 (FS.pwrite_ok h.ok F 2 a _).2 (hu.mono (by simp)), hu.mono (by simp)⟩
theorem RBt.setRec {w : World} {g q : Nat} {t : BS} (h : RBt w g q t) (r : BR) (n b : Nat) : RBt ((((w.setCells g 1 (brC r).toList).setCell ⟨g, 6, none⟩ (.int .i64 (n : Int)))).setCell ⟨g, 7, none⟩ (.int .i64 (b : Int))) g q ⟨r, n, b, t.dead⟩ := by
  have e0 := h.row
  have e1 : (w.setCell ⟨g, 1, none⟩ (.int .i64 r.slot)).heap[g]? = some (.cells #[.pointer (some ⟨q, 0, none⟩), .int .i64 r.slot, .bool t.r.up, .int .i64 t.r.count, .int .i64 t.r.s0, .int .i64 t.r.s1, .int .i64 (t.seq : Int), .int .i64 (t.block : Int), .bool t.dead] 59 (0, 0)) := by rw [heap_setCell_same _ _ _ _ _ _ e0]; rfl
  have e2 : ((w.setCell ⟨g, 1, none⟩ (.int .i64 r.slot)).setCell ⟨g, 2, none⟩ (.bool r.up)).heap[g]? = some (.cells #[.pointer (some ⟨q, 0, none⟩), .int .i64 r.slot, .bool r.up, .int .i64 t.r.count, .int .i64 t.r.s0, .int .i64 t.r.s1, .int .i64 (t.seq : Int), .int .i64 (t.block : Int), .bool t.dead] 59 (0, 0)) := by rw [heap_setCell_same _ _ _ _ _ _ e1]; rfl
  have e3 : (((w.setCell ⟨g, 1, none⟩ (.int .i64 r.slot)).setCell ⟨g, 2, none⟩ (.bool r.up)).setCell ⟨g, 3, none⟩ (.int .i64 r.count)).heap[g]? = some (.cells #[.pointer (some ⟨q, 0, none⟩), .int .i64 r.slot, .bool r.up, .int .i64 r.count, .int .i64 t.r.s0, .int .i64 t.r.s1, .int .i64 (t.seq : Int), .int .i64 (t.block : Int), .bool t.dead] 59 (0, 0)) := by rw [heap_setCell_same _ _ _ _ _ _ e2]; rfl
  have e4 : ((((w.setCell ⟨g, 1, none⟩ (.int .i64 r.slot)).setCell ⟨g, 2, none⟩ (.bool r.up)).setCell ⟨g, 3, none⟩ (.int .i64 r.count)).setCell ⟨g, 4, none⟩ (.int .i64 r.s0)).heap[g]? = some (.cells #[.pointer (some ⟨q, 0, none⟩), .int .i64 r.slot, .bool r.up, .int .i64 r.count, .int .i64 r.s0, .int .i64 t.r.s1, .int .i64 (t.seq : Int), .int .i64 (t.block : Int), .bool t.dead] 59 (0, 0)) := by rw [heap_setCell_same _ _ _ _ _ _ e3]; rfl
  have e5 : (((((w.setCell ⟨g, 1, none⟩ (.int .i64 r.slot)).setCell ⟨g, 2, none⟩ (.bool r.up)).setCell ⟨g, 3, none⟩ (.int .i64 r.count)).setCell ⟨g, 4, none⟩ (.int .i64 r.s0)).setCell ⟨g, 5, none⟩ (.int .i64 r.s1)).heap[g]? = some (.cells #[.pointer (some ⟨q, 0, none⟩), .int .i64 r.slot, .bool r.up, .int .i64 r.count, .int .i64 r.s0, .int .i64 r.s1, .int .i64 (t.seq : Int), .int .i64 (t.block : Int), .bool t.dead] 59 (0, 0)) := by rw [heap_setCell_same _ _ _ _ _ _ e4]; rfl
  have e6 : ((((((w.setCell ⟨g, 1, none⟩ (.int .i64 r.slot)).setCell ⟨g, 2, none⟩ (.bool r.up)).setCell ⟨g, 3, none⟩ (.int .i64 r.count)).setCell ⟨g, 4, none⟩ (.int .i64 r.s0)).setCell ⟨g, 5, none⟩ (.int .i64 r.s1)).setCell ⟨g, 6, none⟩ (.int .i64 (n : Int))).heap[g]? = some (.cells #[.pointer (some ⟨q, 0, none⟩), .int .i64 r.slot, .bool r.up, .int .i64 r.count, .int .i64 r.s0, .int .i64 r.s1, .int .i64 (n : Int), .int .i64 (t.block : Int), .bool t.dead] 59 (0, 0)) := by rw [heap_setCell_same _ _ _ _ _ _ e5]; rfl
  have e7 : (((((((w.setCell ⟨g, 1, none⟩ (.int .i64 r.slot)).setCell ⟨g, 2, none⟩ (.bool r.up)).setCell ⟨g, 3, none⟩ (.int .i64 r.count)).setCell ⟨g, 4, none⟩ (.int .i64 r.s0)).setCell ⟨g, 5, none⟩ (.int .i64 r.s1)).setCell ⟨g, 6, none⟩ (.int .i64 (n : Int))).setCell ⟨g, 7, none⟩ (.int .i64 (b : Int))).heap[g]? = some (.cells #[.pointer (some ⟨q, 0, none⟩), .int .i64 r.slot, .bool r.up, .int .i64 r.count, .int .i64 r.s0, .int .i64 r.s1, .int .i64 (n : Int), .int .i64 (b : Int), .bool t.dead] 59 (0, 0)) := by rw [heap_setCell_same _ _ _ _ _ _ e6]; rfl
  exact ⟨e7⟩
theorem page_cuts (r : BR) (n : Nat) (c : ByteArray) (hc : c = ⟨(pageB r n).toArray⟩) : c.size = 64 ∧ c.extract 0 16 = ⟨(bodyB r n).toArray⟩ ∧ c.extract 63 64 = ⟨[0].toArray⟩ := by
  have hl : c.data.toList = pageB r n := by rw [hc]
  refine ⟨?_, ?_, ?_⟩
  · have : c.data.toList.length = 64 := by rw [hl]; exact pageB_len r n
    rw [← this]; simp
  · apply ba_ext; rw [ba_cut, hl]; unfold pageB
    rw [List.drop_zero, List.take_append_of_le_length (by rw [bodyB_len]; omega), List.take_of_length_le (by rw [bodyB_len]; omega)]
  · apply ba_ext; rw [ba_cut, hl]
    apply List.ext_getElem?; intro k
    rw [List.getElem?_take, List.getElem?_drop]
    match k with
    | 0 => rw [if_pos (by omega), pageB_63]; rfl
    | k + 1 => rw [if_neg (by omega)]; rfl
set_option maxHeartbeats 4000000 in
theorem rbkeep_any (g q p bb cb F : Nat) (s : FS) (t : BS) (r : BR) (n b pg : Nat) (w : World) (h : RBtS w F g q p bb cb s t) (hr : r.May) (hn : n < 281474976710656) (hb : b < 2) (hp : pg < 8) :
    Calls Tryz.prog 56 #[.pointer (some ⟨g, 0, none⟩), brV r, .int .i64 (n : Int), .int .i64 (b : Int), .int .i64 (pg : Int)] w fun e w' => e = .returned (.int .i64 (s.bkeep F t r n b pg).2.2) ∧ RBtS w' F g q p bb cb (s.bkeep F t r n b pg).1 (s.bkeep F t r n b pg).2.1 ∧ Upd [g, p, bb, cb] w w' := by
  obtain ⟨A0, hA0⟩ : ∃ A, A = 512 * b := ⟨_, rfl⟩
  obtain ⟨A1, hA1⟩ : ∃ A, A = 64 * pg := ⟨_, rfl⟩
  obtain ⟨A, hA⟩ : ∃ A, A = 512 * b + 64 * pg := ⟨_, rfl⟩
  obtain ⟨A63, hA63⟩ : ∃ A, A = 512 * b + 64 * pg + 63 := ⟨_, rfl⟩
  have hw0 : IntKind.i64.wrap (512 * (b : Int)) = (A0 : Int) := by rw [IntKind.wrap_i64]; omega
  have hw1 : IntKind.i64.wrap (64 * (pg : Int)) = (A1 : Int) := by rw [IntKind.wrap_i64]; omega
  have hw2 : IntKind.i64.wrap ((A0 : Int) + (A1 : Int)) = (A : Int) := by rw [IntKind.wrap_i64]; omega
  have hw3 : IntKind.i64.wrap ((A : Int) + 63) = (A63 : Int) := by rw [IntKind.wrap_i64]; omega
  have HA := Box.mk (show A ≤ 100000 ∧ A63 ≤ 100000 by omega)
  obtain ⟨V, hV⟩ : ∃ V, V = s.bkeep F t r n b pg := ⟨_, rfl⟩
  rw [← hV]
  unfold FS.bkeep FS.bwrite at hV
  rw [← hA63, ← hA] at hV
  dsimp only at hV
  have HM := Box.mk hV
  have PG := Box.mk (fun w => rpage_any r n hr hn w)
  obtain ⟨c, hc⟩ : ∃ c : ByteArray, c = ⟨(pageB r n).toArray⟩ := ⟨_, rfl⟩
  rw [← hc] at PG
  obtain ⟨hcs, hc1, hc2⟩ := page_cuts r n c hc
  have HC := Box.mk (And.intro hc1 hc2)
  obtain ⟨b0, hb0⟩ : ∃ b0, b0 = w.heap.size := ⟨_, rfl⟩
  have ROW := Box.mk (show (w.alloc (.cells (brC r) 24)).heap[b0]? = some (.cells (brC r) 24 (0, 0)) from by rw [hb0]; exact heap_alloc_new _ _)
  have H := Box.mk (h.keep ((Upd.refl [] w).alloc (.cells (brC r) 24)))
  have U0 := Box.mk ((Upd.refl [g, p, bb, cb] w).alloc (.cells (brC r) 24))
  have LT0 := h.f.lt; have LT1 := h.bt.lt; have LT2 := h.pa.lt
  have NB := Box.mk (show b0 ∉ [g, p, bb, cb] ∧ b0 ≠ g ∧ b0 ∉ [p, bb, cb] from ⟨by simp only [List.mem_cons, List.not_mem_nil, or_false, not_or]; omega, by omega, by simp only [List.mem_cons, List.not_mem_nil, or_false, not_or]; omega⟩)
  have GN := Box.mk h.ap.hg
  clear h hr hn hV hA hA0 hA1 hA63 LT0 LT1 LT2 hc hc1 hc2 hb hp
  unfold brV brC at *
  go_enter Tryz.func56, Tryz.ntmps56
  go_wp2_with fail
  refine (PG.out _).mono ?_
  rintro e w1 ⟨rfl, hb⟩
  rw [← hb0]
  have H1 := Box.mk (H.out.keep (Upd.of_below hb)); have U1 := Box.mk (U0.out.trans (Upd.of_below (S := [g, p, bb, cb]) hb))
  have ROW1 := Box.mk ((hb.block b0 (Array.getElem?_eq_some_iff.1 ROW.out).1).trans ROW.out)
  clear hb hb0 H U0 ROW PG
  have PW := Box.mk (fun w1 (h : RBtS w1 F g q p bb cb s t) => rbpwrite_any g q p bb cb F s t A (bodyB r n) w1 h (by have := HA.out.1; omega) (by rw [bodyB_len]; omega))
  rw [← HC.out.1] at PW
  generalize s.pwrite F 2 ((A : Nat) : Int) (bodyB r n) = r0 at PW HM
  obtain ⟨r1, r2⟩ := r0
  dsimp only at PW HM
  go_upto_region 2 with (fail)
  have LT : Box (∀ k ∈ [p, bb, cb], k < w1.heap.size) := ⟨by have := H1.out.f.lt; intro k hk; simp only [List.mem_cons, List.not_mem_nil, or_false] at hk; omega⟩
  refine wp_region_mixS [p, bb, cb] (fun w => RBtS w F g q p bb cb s t) (fun w w' hg h => h.keep hg.upd) (H1.out.keep (Upd.refl [] w1).drew) (LT.out) 13 [.flo, .flo, .flo, .flo, .flo, .flo, .flo, .flo, .flo, .flo, .flo, .flo, .cha] (by kernel_rfl) (by kernel_rfl) rfl ?_
  simp only [List.take, List.zip, List.zipWith]
  try go_frame
  refine gm_move (.tmp 0) (.inl rfl) (.pointer (some ⟨g, 0, none⟩)) rfl ?_
  try go_frame
  refine gm_move (.tmp 0) (.inl rfl) (.pointer (some ⟨g, 0, none⟩)) rfl ?_
  try go_frame
  refine gm_flo (.pointer (some ⟨g, 0, none⟩)) (fun w1 hw1 => ?_) ?_
  case refine_1 =>
    go_simp
  try go_frame
  refine gm_flo (.pointer (some ⟨g, 0, none⟩)) (fun w1 hw1 => ?_) ?_
  case refine_1 =>
    go_simp
  try go_frame
  refine gm_flo (.pointer (some ⟨q, 0, none⟩)) (fun w1 hw1 => ?_) ?_
  case refine_1 =>
    have e1 : w1.cell? ⟨g, 0, none⟩ = some (.pointer (some ⟨q, 0, none⟩)) := (cell_of_row _ _ _ _ _ _ (hw1.at (GN.out) H1.out.bt.row)).trans rfl
    go_simp
  try go_frame
  refine gm_move (.tmp 3) (.inl rfl) (.int .i64 (b : Int)) rfl ?_
  try go_frame
  refine gm_flo (.int .i64 (A0 : Int)) (fun w1 hw1 => ?_) ?_
  case refine_1 =>
    go_simp
  try go_frame
  refine gm_move (.tmp 4) (.inl rfl) (.int .i64 (pg : Int)) rfl ?_
  try go_frame
  refine gm_flo (.int .i64 (A1 : Int)) (fun w1 hw1 => ?_) ?_
  case refine_1 =>
    go_simp
  try go_frame
  refine gm_flo (.int .i64 (A : Int)) (fun w1 hw1 => ?_) ?_
  case refine_1 =>
    go_simp
  try go_frame
  refine gm_move (.tmp 11) (.inl rfl) (.string c) rfl ?_
  try go_frame
  refine gm_flo (.string (c.extract 0 16)) (fun w1 hw1 => ?_) ?_
  case refine_1 =>
    go_simp
  try go_frame
  refine gm_callS [.pointer (some ⟨q, 0, none⟩), .int .i64 (A : Int), .string (c.extract 0 16)] (by kernel_rfl) rfl rfl (fun w1 hw1 hF1 => (PW.out w1 hF1).mono ?_)
  rintro e w2 ⟨rfl, hf, hu⟩
  refine ⟨_, rfl, GrS.of_upd hu (by simp), (fun w => RBtS w F g q p bb cb r1 t), (fun w w' hg h => h.keep hg.upd), (hf), ?_⟩
  clear hw1 hF1 hf hu w1 w2
  try go_frame
  refine gm_nil ?_
  intro w9 hw9 hF9
  simp only [List.drop]
  try go_frame
  have H9 := Box.mk hF9
  have U9 := Box.mk (U1.out.trans ((Upd.refl [g, p, bb, cb] w1).drew.trans (hw9.upd.mono (T := [g, p, bb, cb]) (fun k hk => List.mem_cons_of_mem _ hk))))
  have ROW9 := Box.mk (show w9.heap[b0]? = _ from hw9.at NB.out.2.2 (show w1.drew.heap[b0]? = _ from ROW1.out))
  clear hF9 hw9 PW ROW1 H1 U1 LT
  go_wp2_with fail
  refine (rbtold_any g q t r2 _ H9.out.bt).mono ?_
  rintro e w2 ⟨rfl, hl, hu⟩
  have H10 := Box.mk (H9.out.own hl hu); have U10 := Box.mk (U9.out.trans (hu.mono (T := [g, p, bb, cb]) (by simp)))
  have ROW10 := Box.mk ((hu.block _ (Array.getElem?_eq_some_iff.1 ROW9.out).1 (by rw [List.mem_singleton]; exact NB.out.2.1)).trans ROW9.out)
  clear hl hu H9 U9 ROW9
  by_cases hr : r2 = 0
  · have hrb : (r2 == 0) = true := by simpa using hr
    have hm := HM.out
    rw [if_neg (by simpa using hr)] at hm
    obtain ⟨t1, ht1⟩ : ∃ t1, t1 = t.told r2 := ⟨_, rfl⟩
    rw [← ht1] at hm
    rw [← ht1] at H10
    have PZ := Box.mk (fun w1 (h : RBtS w1 F g q p bb cb r1 t1) => rbpwrite_any g q p bb cb F r1 t1 A63 [0] w1 h (by have := HA.out.2; omega) (by simp))
    rw [← HC.out.2] at PZ
    generalize r1.pwrite F 2 ((A63 : Nat) : Int) [0] = z at PZ hm
    obtain ⟨z1, z2⟩ := z
    dsimp only at PZ hm
    have HM := Box.mk hm
    clear hm hr ht1
    obtain ⟨d0, _, _, _, _, _, _, _, _⟩ := H10.out.bt.cells
    go_upto_region 4 with (fail)
    have LT : Box (∀ k ∈ [p, bb, cb], k < w2.heap.size) := ⟨by have := H10.out.f.lt; intro k hk; simp only [List.mem_cons, List.not_mem_nil, or_false] at hk; omega⟩
    refine wp_region_mixS [p, bb, cb] (fun w => RBtS w F g q p bb cb r1 t1) (fun w w' hg h => h.keep hg.upd) (H10.out.keep (Upd.refl [] w2).drew) (LT.out) 14 [.flo, .flo, .flo, .flo, .flo, .flo, .flo, .flo, .flo, .flo, .flo, .flo, .flo, .cha] (by kernel_rfl) (by kernel_rfl) rfl ?_
    simp only [List.take, List.zip, List.zipWith]
    try go_frame
    refine gm_move (.tmp 0) (.inl rfl) (.pointer (some ⟨g, 0, none⟩)) rfl ?_
    try go_frame
    refine gm_move (.tmp 0) (.inl rfl) (.pointer (some ⟨g, 0, none⟩)) rfl ?_
    try go_frame
    refine gm_flo (.pointer (some ⟨g, 0, none⟩)) (fun w1 hw1 => ?_) ?_
    case refine_1 =>
      go_simp
    try go_frame
    refine gm_flo (.pointer (some ⟨g, 0, none⟩)) (fun w1 hw1 => ?_) ?_
    case refine_1 =>
      go_simp
    try go_frame
    refine gm_flo (.pointer (some ⟨q, 0, none⟩)) (fun w1 hw1 => ?_) ?_
    case refine_1 =>
      have e1 : w1.cell? ⟨g, 0, none⟩ = some (.pointer (some ⟨q, 0, none⟩)) := (cell_of_row _ _ _ _ _ _ (hw1.at (GN.out) H10.out.bt.row)).trans rfl
      go_simp
    try go_frame
    refine gm_move (.tmp 3) (.inl rfl) (.int .i64 (b : Int)) rfl ?_
    try go_frame
    refine gm_flo (.int .i64 (A0 : Int)) (fun w1 hw1 => ?_) ?_
    case refine_1 =>
      go_simp
    try go_frame
    refine gm_move (.tmp 4) (.inl rfl) (.int .i64 (pg : Int)) rfl ?_
    try go_frame
    refine gm_flo (.int .i64 (A1 : Int)) (fun w1 hw1 => ?_) ?_
    case refine_1 =>
      go_simp
    try go_frame
    refine gm_flo (.int .i64 (A : Int)) (fun w1 hw1 => ?_) ?_
    case refine_1 =>
      go_simp
    try go_frame
    refine gm_flo (.int .i64 (A63 : Int)) (fun w1 hw1 => ?_) ?_
    case refine_1 =>
      go_simp
    try go_frame
    refine gm_move (.tmp 11) (.inl rfl) (.string c) rfl ?_
    try go_frame
    refine gm_flo (.string (c.extract 63 64)) (fun w1 hw1 => ?_) ?_
    case refine_1 =>
      go_simp
    try go_frame
    refine gm_callS [.pointer (some ⟨q, 0, none⟩), .int .i64 (A63 : Int), .string (c.extract 63 64)] (by kernel_rfl) rfl rfl (fun w1 hw1 hF1 => (PZ.out w1 hF1).mono ?_)
    rintro e w2 ⟨rfl, hf, hu⟩
    refine ⟨_, rfl, GrS.of_upd hu (by simp), (fun w => RBtS w F g q p bb cb z1 t1), (fun w w' hg h => h.keep hg.upd), (hf), ?_⟩
    clear hw1 hF1 hf hu w1 w2
    try go_frame
    refine gm_nil ?_
    intro w9 hw9 hF9
    simp only [List.drop]
    try go_frame
    have H9 := Box.mk hF9
    have U9 := Box.mk (U10.out.trans ((Upd.refl [g, p, bb, cb] w2).drew.trans (hw9.upd.mono (T := [g, p, bb, cb]) (fun k hk => List.mem_cons_of_mem _ hk))))
    have ROW9 := Box.mk (show w9.heap[b0]? = _ from hw9.at NB.out.2.2 (show w2.drew.heap[b0]? = _ from ROW10.out))
    clear hF9 hw9 PZ ROW10 H10 U10 LT
    go_wp2_with fail
    refine (rbtold_any g q t1 z2 _ H9.out.bt).mono ?_
    rintro e w4 ⟨rfl, hl, hu⟩
    have H12 := Box.mk (H9.out.own hl hu); have U12 := Box.mk (U9.out.trans (hu.mono (T := [g, p, bb, cb]) (by simp)))
    have ROW12 := Box.mk ((hu.block _ (Array.getElem?_eq_some_iff.1 ROW9.out).1 (by rw [List.mem_singleton]; exact NB.out.2.1)).trans ROW9.out)
    clear hl hu H9 U9 ROW9
    by_cases hz : z2 = 0
    · have hzb : (z2 == 0) = true := by simpa using hz
      have hm := HM.out
      rw [if_neg (by simpa using hz)] at hm
      have HZ := Box.mk hz
      subst hm
      clear hz
      obtain ⟨k0, k1, k2, k3, k4⟩ : w4.cell? ⟨b0, 0, none⟩ = some (.int .i64 r.slot) ∧ w4.cell? ⟨b0, 1, none⟩ = some (.bool r.up) ∧ w4.cell? ⟨b0, 2, none⟩ = some (.int .i64 r.count) ∧ w4.cell? ⟨b0, 3, none⟩ = some (.int .i64 r.s0) ∧ w4.cell? ⟨b0, 4, none⟩ = some (.int .i64 r.s1) := by
        refine ⟨?_, ?_, ?_, ?_, ?_⟩ <;> (rw [cell_of_row _ _ _ _ _ _ ROW12.out]; rfl)
      obtain ⟨_, c1, c2, c3, c4, c5, c6, c7, _⟩ := H12.out.bt.cells
      have f1 := H12.out.bt.free 1; have f2 := H12.out.bt.free 2; have f3 := H12.out.bt.free 3; have f4 := H12.out.bt.free 4; have f5 := H12.out.bt.free 5; have f6 := H12.out.bt.free 6; have f7 := H12.out.bt.free 7
      have FIN : Box (RBtS (((((((w4.setCell ⟨g, 1, none⟩ (.int .i64 r.slot)).setCell ⟨g, 2, none⟩ (.bool r.up)).setCell ⟨g, 3, none⟩ (.int .i64 r.count)).setCell ⟨g, 4, none⟩ (.int .i64 r.s0)).setCell ⟨g, 5, none⟩ (.int .i64 r.s1)).setCell ⟨g, 6, none⟩ (.int .i64 (n : Int))).setCell ⟨g, 7, none⟩ (.int .i64 (b : Int))) F g q p bb cb z1 ⟨r, n, b, (t1.told z2).dead⟩ ∧ Upd [g, p, bb, cb] w (((((((w4.setCell ⟨g, 1, none⟩ (.int .i64 r.slot)).setCell ⟨g, 2, none⟩ (.bool r.up)).setCell ⟨g, 3, none⟩ (.int .i64 r.count)).setCell ⟨g, 4, none⟩ (.int .i64 r.s0)).setCell ⟨g, 5, none⟩ (.int .i64 r.s1)).setCell ⟨g, 6, none⟩ (.int .i64 (n : Int))).setCell ⟨g, 7, none⟩ (.int .i64 (b : Int)))) := ⟨by
        have hu : Upd [g] w4 (((((((w4.setCell ⟨g, 1, none⟩ (.int .i64 r.slot)).setCell ⟨g, 2, none⟩ (.bool r.up)).setCell ⟨g, 3, none⟩ (.int .i64 r.count)).setCell ⟨g, 4, none⟩ (.int .i64 r.s0)).setCell ⟨g, 5, none⟩ (.int .i64 r.s1)).setCell ⟨g, 6, none⟩ (.int .i64 (n : Int))).setCell ⟨g, 7, none⟩ (.int .i64 (b : Int))) :=
          ((((((((Upd.refl [g] w4).setCell (by simp) _).setCell (by simp) _).setCell (by simp) _).setCell (by simp) _).setCell (by simp) _)).setCell (by simp) _).setCell (by simp) _
        exact ⟨H12.out.own (H12.out.bt.setRec r n b) hu, U12.out.trans (hu.mono (by simp))⟩⟩
      clear HM H12 U12 ROW12
      go_wp2_with fail
      go_ret
      rw [HZ.out] at FIN ⊢
      exact ⟨rfl, FIN.out⟩
    · have hzb : (z2 == 0) = false := by rw [beq_eq_false_iff_ne]; exact hz
      have hm := HM.out
      rw [if_pos (by simpa using hz)] at hm
      subst hm
      clear HM hz
      go_wp2_with fail
      go_ret
      exact ⟨rfl, H12.out, U12.out⟩
  · have hrb : (r2 == 0) = false := by rw [beq_eq_false_iff_ne]; exact hr
    have hm := HM.out
    rw [if_pos (by simpa using hr)] at hm
    subst hm
    clear HM hr
    go_wp2_with fail
    go_ret
    exact ⟨rfl, H10.out, U10.out⟩
end Go.Proofs.YtgcbmjflodgnbaaGreatDoor
namespace Go.Proofs.YtgcbmjflodgnbaaGreatDoor
set_option maxRecDepth 100000
set_option linter.unusedVariables false
open Go Go.RowKit

/-- What Format leaves. -/
def RBFmt (F : Nat) (q p bb cb : Nat) (w : World) (r : FS × BS × Int) (e : Ending) (w' : World) : Prop :=
  Fl 73 w' p bb cb r.1 ∧ r.1.Ok ∧ Upd [p, bb, cb] w w' ∧
  ((r.2.2 ≠ 0 ∧ e = .returned (.tuple #[.pointer none, .int .i64 r.2.2])) ∨ (r.2.2 = 0 ∧ ∃ g, e = .returned (.tuple #[.pointer (some ⟨g, 0, none⟩), .int .i64 0]) ∧ RBtS w' F g q p bb cb r.1 r.2.1 ∧ w.heap.size ≤ g))
set_option maxHeartbeats 4000000 in
theorem rbformat_any (q p bb cb F : Nat) (s : FS) (r : BR) (w : World) (hf : Fl 73 w p bb cb s) (hok : s.Ok) (hp : RPa w q p (F : Nat) 2) (hi : In s.n.length (F : Nat) 2) (hq : q ∉ [p, bb, cb]) :
    Calls Tryz.prog 38 #[.pointer (some ⟨q, 0, none⟩), brV r] w (RBFmt F q p bb cb w (s.bformat F r)) := by
  obtain ⟨R, hR⟩ : ∃ R, R = s.bformat F r := ⟨_, rfl⟩
  rw [← hR]
  unfold FS.bformat at hR
  have MA := Box.mk (fun w => rmay_any r w)
  have SZ := Box.mk (fun w h => rsize_any q p (F : Nat) 2 s.n.length w h hi)
  have LT0 := hf.lt; have LT2 := hp.lt
  obtain ⟨b0, hb0⟩ : ∃ b0, b0 = w.heap.size := ⟨_, rfl⟩
  have ROW0 := Box.mk (show (w.alloc (.cells (brC r) 24)).heap[b0]? = some (.cells (brC r) 24 (0, 0)) from by rw [hb0]; exact heap_alloc_new _ _)
  have F0 := Box.mk (hf.upd ((Upd.refl [] w).alloc (.cells (brC r) 24)) (by simp) (by simp) (by simp))
  have P0 := Box.mk (hp.upd ((Upd.refl [] w).alloc (.cells (brC r) 24)) (by simp))
  have U0 := Box.mk ((Upd.refl [p, bb, cb] w).alloc (.cells (brC r) 24))
  have NB := Box.mk (show b0 ∉ [p, bb, cb] ∧ w.heap.size ≤ b0 from ⟨by simp only [List.mem_cons, List.not_mem_nil, or_false, not_or]; omega, by omega⟩)
  have HOK := Box.mk hok; have HI := Box.mk hi; have HQ := Box.mk hq
  clear hf hp hok hi hq LT0 LT2
  unfold brV
  unfold brC at *
  cases hm : r.may with
  | false => as_aux_lemma =>
    rw [if_pos hm] at hR
    rw [hm] at MA
    subst hR
    clear hm ROW0
    unfold brV brC at MA
    go_enter Tryz.func38, Tryz.ntmps38
    go_wp2_with fail
    refine (SZ.out _ P0.out).mono ?_
    rintro e w1 ⟨rfl, rfl⟩
    go_wp2_with fail
    refine (MA.out _).mono ?_
    rintro e w1 ⟨rfl, hb⟩
    have F1 := Box.mk (F0.out.upd (Upd.of_below (S := []) hb) (by simp) (by simp) (by simp)); have U1 := Box.mk (U0.out.trans (Upd.of_below (S := [p, bb, cb]) hb)); clear hb
    go_wp2_with fail
    go_ret2
    exact ⟨F1.out, HOK.out, U1.out, .inl ⟨by show (130 : Int) ≠ 0; decide, rfl⟩⟩
  | true => as_aux_lemma =>
    rw [if_neg (by rw [hm]; decide)] at hR
    rw [hm] at MA
    have HMAY := Box.mk ((BR.may_iff r).1 hm)
    clear hm
    unfold brV brC at MA
    dsimp only at hR
    have HR := Box.mk hR
    clear hR
    go_enter Tryz.func38, Tryz.ntmps38
    go_wp2_with fail
    refine (SZ.out _ P0.out).mono ?_
    rintro e w1 ⟨rfl, rfl⟩
    go_wp2_with fail
    refine (MA.out _).mono ?_
    rintro e w1 ⟨rfl, hb⟩
    have F1 := Box.mk (F0.out.upd (Upd.of_below (S := []) hb) (by simp) (by simp) (by simp)); have P1 := Box.mk (P0.out.upd (Upd.of_below (S := []) hb) (by simp))
    have U1 := Box.mk (U0.out.trans (Upd.of_below (S := [p, bb, cb]) hb))
    have ROW1 := Box.mk ((hb.block b0 (Array.getElem?_eq_some_iff.1 ROW0.out).1).trans ROW0.out)
    clear hb F0 P0 U0 ROW0 MA SZ
    rw [← hb0]
    clear hb0
    obtain ⟨g, hg⟩ : ∃ g, g = w1.heap.size := ⟨_, rfl⟩
    have LT0 := F1.out.lt; have LT2 := P1.out.lt; have LT3 := (Array.getElem?_eq_some_iff.1 ROW1.out).1
    obtain ⟨W2, hW2⟩ : ∃ W2, W2 = w1.alloc (.cells #[.pointer (some ⟨q, 0, none⟩), .int .i64 0, .bool false, .int .i64 0, .int .i64 0, .int .i64 0, .int .i64 0, .int .i64 0, .bool false] 59) := ⟨_, rfl⟩
    have H2 : Box (RBtS W2 F g q p bb cb s bs0) := ⟨by
      rw [hW2]
      exact ⟨⟨by have := HQ.out; simp only [List.mem_cons, List.not_mem_nil, or_false, not_or] at this ⊢; omega, by simp only [List.mem_cons, List.not_mem_nil, or_false, not_or]; omega⟩,
        F1.out.upd ((Upd.refl [] _).alloc _) (by simp) (by simp) (by simp), HOK.out, P1.out.upd ((Upd.refl [] _).alloc _) (by simp), HI.out, ⟨by rw [hg]; exact heap_alloc_new _ _⟩⟩⟩
    have U2 : Box (Upd [p, bb, cb] w W2) := ⟨by rw [hW2]; exact U1.out.alloc _⟩
    have ROW2 := Box.mk (show W2.heap[b0]? = some (.cells #[.int .i64 r.slot, .bool r.up, .int .i64 r.count, .int .i64 r.s0, .int .i64 r.s1] 24 (0, 0)) from by rw [hW2]; exact (heap_alloc_old _ _ LT3).trans ROW1.out)
    have EXT : Box (∀ i, i ∈ [g, p, bb, cb] → i ∈ [p, bb, cb] ∨ w.heap.size ≤ i) := ⟨fun i hi => by
      rcases List.mem_cons.1 hi with rfl | hi
      · have := U1.out.size; exact .inr (by omega)
      · exact .inl hi⟩
    have NG := Box.mk (show b0 ∉ [g, p, bb, cb] ∧ b0 ≠ g ∧ w.heap.size ≤ g from ⟨by have := NB.out.1; simp only [List.mem_cons, List.not_mem_nil, or_false, not_or] at this ⊢; omega, by omega, by have := U1.out.size; omega⟩)
    clear LT0 LT2 LT3 F1 P1 U1 ROW1
    have CL := Box.mk (fun s t k w (h : RBtS w F g q p bb cb s t) (hk : k ≤ 256) => rbclean_any g q p bb cb F s t k w h hk)
    have C0 := Box.mk (CL.out s bs0 0 W2 H2.out (by omega))
    obtain ⟨c, hc⟩ : ∃ c, c = s.bclean F bs0 0 := ⟨_, rfl⟩
    have HR1 := Box.mk (show R = if c.2.2 ≠ 0 then c else if (c.1.bclean F c.2.1 1).2.2 ≠ 0 then c.1.bclean F c.2.1 1 else (c.1.bclean F c.2.1 1).1.bkeep F (c.1.bclean F c.2.1 1).2.1 r 1 0 0 from by rw [hc]; exact HR.out)
    rw [← hc, show ((0 : Nat) : Int) = 0 from rfl] at C0
    clear hc HR
    obtain ⟨s1, t1, e1⟩ := c
    dsimp only at C0 HR1
    go_wp2_with fail
    rw [← hW2, ← hg]
    clear hW2 hg
    refine wp_loop_rounds 3 ?_
    rw [rounds_succ]
    go_wp2_with fail
    refine C0.out.mono ?_
    rintro e w3 ⟨rfl, hl, hu⟩
    have H3 := Box.mk hl; have U3 := Box.mk (U2.out.ext hu EXT.out)
    have ROW3 := Box.mk ((hu.block b0 (Array.getElem?_eq_some_iff.1 ROW2.out).1 NG.out.1).trans ROW2.out)
    clear hl hu H2 U2 ROW2 C0
    by_cases he1 : e1 = 0
    · have he1b : (e1 != 0) = false := by simpa using he1
      have hr := HR1.out
      rw [if_neg (by simpa using he1)] at hr
      have C1 := Box.mk (CL.out s1 t1 1 w3 H3.out (by omega))
      generalize s1.bclean F t1 1 = c at C1 hr
      obtain ⟨s2, t2, e2⟩ := c
      dsimp only at C1 hr
      rw [show ((1 : Nat) : Int) = 1 from rfl] at C1
      have HR2 := Box.mk hr
      clear hr he1 HR1 CL
      go_wp2_with fail
      rw [rounds_succ]
      go_wp2_with fail
      refine C1.out.mono ?_
      rintro e w4 ⟨rfl, hl, hu⟩
      have H4 := Box.mk hl; have U4 := Box.mk (U3.out.ext hu EXT.out)
      have ROW4 := Box.mk ((hu.block b0 (Array.getElem?_eq_some_iff.1 ROW3.out).1 NG.out.1).trans ROW3.out)
      clear hl hu H3 U3 ROW3 C1
      by_cases he2 : e2 = 0
      · have he2b : (e2 != 0) = false := by simpa using he2
        have hr := HR2.out
        rw [if_neg (by simpa using he2)] at hr
        have KP := Box.mk (rbkeep_any g q p bb cb F s2 t2 r 1 0 0 w4 H4.out HMAY.out (by omega) (by omega) (by omega))
        have KO := Box.mk (FS.bkeep_ok H4.out.ok F t2 r 1 0 0).1
        generalize s2.bkeep F t2 r 1 0 0 = c at KP hr KO
        obtain ⟨s3, t3, e3⟩ := c
        dsimp only at KP hr KO
        rw [show ((1 : Nat) : Int) = 1 from rfl, show ((0 : Nat) : Int) = 0 from rfl] at KP
        unfold brV brC at KP
        subst hr
        clear he2 HR2
        obtain ⟨k0, k1, k2, k3, k4⟩ : w4.cell? ⟨b0, 0, none⟩ = some (.int .i64 r.slot) ∧ w4.cell? ⟨b0, 1, none⟩ = some (.bool r.up) ∧ w4.cell? ⟨b0, 2, none⟩ = some (.int .i64 r.count) ∧ w4.cell? ⟨b0, 3, none⟩ = some (.int .i64 r.s0) ∧ w4.cell? ⟨b0, 4, none⟩ = some (.int .i64 r.s1) := by
          refine ⟨?_, ?_, ?_, ?_, ?_⟩ <;> (rw [cell_of_row _ _ _ _ _ _ ROW4.out]; rfl)
        go_wp2_with fail
        rw [rounds_succ]
        go_wp2_with fail
        refine KP.out.mono ?_
        rintro e w5 ⟨rfl, hl, hu⟩
        have H5 := Box.mk hl; have U5 := Box.mk (U4.out.ext hu EXT.out)
        clear hl hu H4 U4 ROW4 KP k0 k1 k2 k3 k4
        by_cases he3 : e3 = 0
        · have he3b : (e3 != 0) = false := by simpa using he3
          have HE := Box.mk he3
          clear he3
          go_wp2_with fail
          go_ret2
          exact ⟨H5.out.f, KO.out, U5.out, .inr ⟨HE.out, g, rfl, H5.out, NG.out.2.2⟩⟩
        · have he3b : (e3 != 0) = true := by rw [bne_iff_ne]; exact he3
          have HE := Box.mk he3
          clear he3
          go_wp2_with fail
          go_ret2
          exact ⟨H5.out.f, KO.out, U5.out, .inl ⟨HE.out, rfl⟩⟩
      · have he2b : (e2 != 0) = true := by rw [bne_iff_ne]; exact he2
        have hr := HR2.out
        rw [if_pos (by simpa using he2)] at hr
        subst hr
        have HE := Box.mk he2
        clear he2 HR2
        go_wp2_with fail
        go_ret2
        exact ⟨H4.out.f, H4.out.ok, U4.out, .inl ⟨HE.out, rfl⟩⟩
    · have he1b : (e1 != 0) = true := by rw [bne_iff_ne]; exact he1
      have hr := HR1.out
      rw [if_pos (by simpa using he1)] at hr
      subst hr
      have HE := Box.mk he1
      clear he1 HR1
      go_wp2_with fail
      go_ret2
      exact ⟨H3.out.f, H3.out.ok, U3.out, .inl ⟨HE.out, rfl⟩⟩
end Go.Proofs.YtgcbmjflodgnbaaGreatDoor
