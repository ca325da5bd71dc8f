/- The argument of the laws of part: how many blocks, a region, a script. A part and the document's, in one state: quiet counts; what stands between the calls of a script. The document's flash: one is made. The document of codes and logs: Put, First, Blocks, told. The document of logs: clean, makes (of a log without segments), Format. Logs: whether a record stands at a page, as the document has it, plainly. -/
import Derived.Test.YtjednaendedpdaaGreatM04
import Derived.Test.YtjednaendedpdaaGreatM08
import Derived.Deep.QuietTactic
import Derived.Test.YtjednaendedpdaaGreatM07
import Derived.Test.YtjednaendedpdaaGreatM06
namespace Go.Proofs.YtjednaendedpdaaGreat
set_option maxRecDepth 100000
open Go Go.RowKit Go.ChangeShapes Go.WideShapes Go.Deep
set_option linter.unusedVariables false

end Go.Proofs.YtjednaendedpdaaGreat
namespace Go.Proofs.YtjednaendedpdaaGreat
set_option maxRecDepth 100000
set_option linter.unusedVariables false
open Go Go.RowKit

theorem quiet_calls2 {P : Program} {f : FuncId} {args : Array Value} {w : World} {n : Nat} {v : Value}
    (h : Calls P f args (w.drewN n) fun e w' => e = .returned v ∧ ∃ m, w' = (w.drewN n).drewN m) : Calls P f args (w.drewN n) fun e w'' => e = .returned v ∧ ∃ m, w'' = w.drewN m :=
  h.mono fun _ _ ⟨he, m, hm⟩ => ⟨he, n + m, by rw [hm, World.drewN_drewN]⟩
/-- Blocks that are apart: a part, its flash; the document's. -/
structure Apar (B0 q p bb cb q' p' bb' cb' : Nat) : Prop where
  l1 : B0 < q ∧ B0 < p ∧ B0 < bb ∧ B0 < cb
  l2 : B0 < q' ∧ B0 < p' ∧ B0 < bb' ∧ B0 < cb'
  n1 : q ≠ p ∧ q ≠ bb ∧ q ≠ cb
  n2 : q' ≠ p' ∧ q' ≠ bb' ∧ q' ≠ cb'
  a : q ≠ q' ∧ q ≠ p' ∧ q ≠ bb' ∧ q ≠ cb'
  b : p ≠ q' ∧ p ≠ p' ∧ p ≠ bb' ∧ p ≠ cb'
  c : bb ≠ q' ∧ bb ≠ p' ∧ bb ≠ bb' ∧ bb ≠ cb'
  d : cb ≠ q' ∧ cb ≠ p' ∧ cb ≠ bb' ∧ cb ≠ cb'
/-- A part over a flash, and the document's. -/
structure PdS (wr : World) (F B : Int) (q p bb cb q' p' bb' cb' : Nat) (s s' : FS) : Prop where
  f : Fl 89 wr p bb cb s
  pa : Pa wr q p F B
  m : Fl 66 wr p' bb' cb' s'
  ra : RPa wr q' p' F B
theorem nm3 {x a b c : Nat} (h1 : x ≠ a) (h2 : x ≠ b) (h3 : x ≠ c) : x ∉ [a, b, c] := by simp [h1, h2, h3]
theorem Apar.s1 {B0 q p bb cb q' p' bb' cb' : Nat} (n : Apar B0 q p bb cb q' p' bb' cb') : q ∉ [p, bb, cb] ∧ q' ∉ [p, bb, cb] ∧ p' ∉ [p, bb, cb] ∧ bb' ∉ [p, bb, cb] ∧ cb' ∉ [p, bb, cb] :=
  ⟨nm3 n.n1.1 n.n1.2.1 n.n1.2.2, nm3 n.b.1.symm n.c.1.symm n.d.1.symm, nm3 n.b.2.1.symm n.c.2.1.symm n.d.2.1.symm, nm3 n.b.2.2.1.symm n.c.2.2.1.symm n.d.2.2.1.symm, nm3 n.b.2.2.2.symm n.c.2.2.2.symm n.d.2.2.2.symm⟩
theorem Apar.s2 {B0 q p bb cb q' p' bb' cb' : Nat} (n : Apar B0 q p bb cb q' p' bb' cb') : q' ∉ [p', bb', cb'] ∧ q ∉ [p', bb', cb'] ∧ p ∉ [p', bb', cb'] ∧ bb ∉ [p', bb', cb'] ∧ cb ∉ [p', bb', cb'] :=
  ⟨nm3 n.n2.1 n.n2.2.1 n.n2.2.2, nm3 n.a.2.1 n.a.2.2.1 n.a.2.2.2, nm3 n.b.2.1 n.b.2.2.1 n.b.2.2.2, nm3 n.c.2.1 n.c.2.2.1 n.c.2.2.2, nm3 n.d.2.1 n.d.2.2.1 n.d.2.2.2⟩
theorem Apar.g1 {B0 q p bb cb q' p' bb' cb' : Nat} (n : Apar B0 q p bb cb q' p' bb' cb') : ∀ i, i ∈ [p, bb, cb] → B0 < i := by
  have := n.l1; intro i hi; simp only [List.mem_cons, List.not_mem_nil, or_false] at hi; rcases hi with rfl | rfl | rfl <;> omega
theorem Apar.g2 {B0 q p bb cb q' p' bb' cb' : Nat} (n : Apar B0 q p bb cb q' p' bb' cb') : ∀ i, i ∈ [p', bb', cb'] → B0 < i := by
  have := n.l2; intro i hi; simp only [List.mem_cons, List.not_mem_nil, or_false] at hi; rcases hi with rfl | rfl | rfl <;> omega
theorem PdS.one {wr w1 : World} {F B : Int} {B0 q p bb cb q' p' bb' cb' : Nat} {s s' s1 : FS} (h : PdS wr F B q p bb cb q' p' bb' cb' s s') (n : Apar B0 q p bb cb q' p' bb' cb') (hf : Fl 89 w1 p bb cb s1) (hu : Upd [p, bb, cb] wr w1) :
    PdS w1 F B q p bb cb q' p' bb' cb' s1 s' := by
  obtain ⟨n1, n2, n3, n4, n5⟩ := n.s1
  exact ⟨hf, h.pa.upd hu n1, h.m.upd hu n3 n4 n5, h.ra.upd hu n2⟩
theorem PdS.two {wr w1 : World} {F B : Int} {B0 q p bb cb q' p' bb' cb' : Nat} {s s' s1 : FS} (h : PdS wr F B q p bb cb q' p' bb' cb' s s') (n : Apar B0 q p bb cb q' p' bb' cb') (hf : Fl 66 w1 p' bb' cb' s1) (hu : Upd [p', bb', cb'] wr w1) :
    PdS w1 F B q p bb cb q' p' bb' cb' s s1 := by
  obtain ⟨n1, n2, n3, n4, n5⟩ := n.s2
  exact ⟨h.f.upd hu n3 n4 n5, h.pa.upd hu n2, hf, h.ra.upd hu n1⟩
theorem PdS.same {wr w1 : World} {F B : Int} {q p bb cb q' p' bb' cb' : Nat} {s s' : FS} (h : PdS wr F B q p bb cb q' p' bb' cb' s s') (hu : Upd [] wr w1) :
    PdS w1 F B q p bb cb q' p' bb' cb' s s' :=
  ⟨h.f.upd hu (by simp) (by simp) (by simp), h.pa.upd hu (by simp), h.m.upd hu (by simp) (by simp) (by simp), h.ra.upd hu (by simp)⟩
theorem PdS.lt {wr : World} {F B : Int} {q p bb cb q' p' bb' cb' : Nat} {s s' : FS} (h : PdS wr F B q p bb cb q' p' bb' cb' s s') : (q < wr.heap.size ∧ p < wr.heap.size ∧ bb < wr.heap.size ∧ cb < wr.heap.size) ∧ (q' < wr.heap.size ∧ p' < wr.heap.size ∧ bb' < wr.heap.size ∧ cb' < wr.heap.size) :=
  ⟨⟨h.pa.lt, h.f.lt⟩, ⟨h.ra.lt, h.m.lt⟩⟩
end Go.Proofs.YtjednaendedpdaaGreat
namespace Go.Proofs.YtjednaendedpdaaGreat
set_option maxRecDepth 100000
set_option linter.unusedVariables false
open Go Go.RowKit

set_option maxHeartbeats 1000000 in
theorem ropen_no (s : ByteArray) (w : World) (hs : sizeB s.size = false) :
    Calls Tryz.prog 6 #[.string s] w fun e w' => e = .returned (.tuple #[.pointer none, .int .i64 110]) ∧ w = w' := by
  have hs' : ¬ (1 ≤ s.size / 512 ∧ s.size / 512 ≤ 256 ∧ s.size % 512 = 0) := by unfold sizeB at hs; exact of_decide_eq_false hs
  have HS := Box.mk hs'; clear hs hs'
  by_cases h0 : s.size = 0
  · have h0' : ((s.size : Int) == 0) = true := by rw [beq_iff_eq]; omega
    clear h0
    go_enter Tryz.func6, Tryz.ntmps6
    go_wp2
    go_ret2
    exact ⟨rfl, rfl⟩
  · have h0' : ((s.size : Int) == 0) = false := by rw [beq_eq_false_iff_ne]; omega
    by_cases h1 : s.size % 512 = 0
    · have h1' : ((s.size : Int) % 512 != 0) = false := by rw [bne_eq_false_iff_eq]; omega
      have h2 : (131072 : Int) < (s.size : Int) := by have := HS.out; omega
      clear h0 h1
      go_enter Tryz.func6, Tryz.ntmps6
      go_wp2
      go_ret2
      exact ⟨rfl, rfl⟩
    · have h1' : ((s.size : Int) % 512 != 0) = true := by rw [bne_iff_ne]; omega
      clear h0 h1
      go_enter Tryz.func6, Tryz.ntmps6
      go_wp2
      go_ret2
      exact ⟨rfl, rfl⟩

set_option maxHeartbeats 1000000 in
theorem ropen_yes (s : ByteArray) (w : World) (hs : sizeB s.size = true) :
    Calls Tryz.prog 6 #[.string s] w (Made 66 w s.data.toList) := by
  have hs' : 1 ≤ s.size / 512 ∧ s.size / 512 ≤ 256 ∧ s.size % 512 = 0 := by unfold sizeB at hs; exact of_decide_eq_true hs
  have hcv := fun w => Lib.run_convert_string_bytes (P := Tryz.prog) w 9 22 5 s Tryz.underlying9 Tryz.underlying22 Tryz.underlying5
  have hmk := fun w => make_ints (s.size / 512) ((s.size : Int) / 512) (by omega) (by omega) w
  have h0' : ((s.size : Int) == 0) = false := by rw [beq_eq_false_iff_ne]; omega
  have h1' : ((s.size : Int) % 512 != 0) = false := by rw [bne_eq_false_iff_eq]; omega
  have h2 : ¬ (131072 : Int) < (s.size : Int) := by omega
  have hsz := Lib.bytesWorld_size w 5 s
  have HS := Box.mk hs'; clear hs hs'
  go_enter Tryz.func6, Tryz.ntmps6
  go_wp2
  go_ret2
  have hlen : s.data.toList.length = s.size := by simp
  obtain ⟨sp, fr, hb, hfr⟩ := bytesWorld_row w s
  refine ⟨w.heap.size + 1 + 1, w.heap.size, w.heap.size + 1, rfl, ⟨⟨grownCap w s.size 0 5, s.size / 512, by show s.data.toList.length ≤ _; rw [hlen]; exact grownCap_ge w _ _ _, by simp [FS.new], ?_⟩, ⟨sp, fr, ?_, hfr⟩, ⟨[], ?_⟩, by omega, by omega, by omega⟩, by omega, by omega, by omega, ?_⟩
  · rw [← hsz, row_new]; simp [FS.new]
  · rw [heap_alloc_old _ _ (by simp [hsz]; omega), heap_alloc_old _ _ (by rw [hsz]; omega)]; exact hb
  · rw [← hsz, row_old]; simp [FS.new, nval]
  · exact ((bytesWorld_below w s).alloc (by rw [hsz]; omega) _).alloc (by simp [hsz]; omega) _

set_option maxHeartbeats 1000000 in
theorem rnew_no (k : Int) (w : World) (hs : sizeN k = false) :
    Calls Tryz.prog 47 #[.int .i64 k] w fun e w' => e = .returned (.tuple #[.pointer none, .int .i64 110]) ∧ w = w' := by
  have hk : ¬ (1 ≤ k ∧ k ≤ 256) := by unfold sizeN at hs; exact of_decide_eq_false hs
  have HS := Box.mk hs; clear hs
  by_cases h : k < 1
  · have h1 : decide (k < 1) = true := by simpa using h
    clear hk
    go_enter Tryz.func47, Tryz.ntmps47
    go_wp2
    go_ret2
    exact ⟨rfl, rfl⟩
  · have h1 : decide (k < 1) = false := by simpa using h
    have h2 : decide (256 < k) = true := by rw [decide_eq_true_iff]; omega
    clear hk
    go_enter Tryz.func47, Tryz.ntmps47
    go_wp2
    go_ret2
    exact ⟨rfl, rfl⟩

theorem fill_step (m n : Nat) (h : m < n) : (List.replicate m (bval 255) ++ List.replicate (n - m) (Value.int .u8 0)).set m (.int .u8 255) = List.replicate (m + 1) (bval 255) ++ List.replicate (n - (m + 1)) (Value.int .u8 0) := by
  rw [List.set_append_right _ _ (by simp), List.length_replicate, Nat.sub_self, show n - m = (n - (m + 1)) + 1 from by omega, List.replicate_succ, List.set_cons_zero, List.replicate_succ' (n := m), List.append_assoc]
  rfl
set_option maxHeartbeats 1000000 in
theorem rnew_yes (k : Nat) (w : World) (hs : sizeN k = true) :
    Calls Tryz.prog 47 #[.int .i64 k] w (Made 66 w (List.replicate (512 * k) 255)) := by
  have hk : 1 ≤ (k : Int) ∧ (k : Int) ≤ 256 := by unfold sizeN at hs; exact of_decide_eq_true hs
  have HS := Box.mk hs; clear hs
  have h1 : decide ((k : Int) < 1) = false := by rw [decide_eq_false_iff_not]; omega
  have h2 : decide (256 < (k : Int)) = false := by rw [decide_eq_false_iff_not]; omega
  obtain ⟨n, hn⟩ : ∃ n, n = 512 * k := ⟨_, rfl⟩
  have hn2 : 1 ≤ n ∧ n ≤ 131072 := by omega
  have hmk := fun w => make_bytes n (512 * (k : Int)) (by omega) (by omega) w
  have hsz : sizeB n = true := by unfold sizeB; rw [decide_eq_true_iff]; omega
  have HN := Box.mk hn; clear hn
  have HSZ := Box.mk hsz; clear hsz
  go_enter Tryz.func47, Tryz.ntmps47
  go_wp2
  go_loopw [5] (fun i wr => ∃ m : Nat, m ≤ n ∧ i = .int .i64 m ∧ wr.heap[w.heap.size]? = some (.cells (List.replicate m (bval 255) ++ List.replicate (n - m) (Value.int .u8 0)).toArray 5 (0, 0)) ∧ Below w.heap.size w wr) (fun i _ => n - (intOf i).toNat)
  case atStart => exact ⟨0, by omega, rfl, by rw [heap_alloc_new]; simp, (Below.refl _ _).alloc (Nat.le_refl _) _⟩
  case round =>
    obtain ⟨m, hm, rfl, hg, hb⟩ := hrel
    have HG := Box.mk hg; have HB := Box.mk hb; clear hb
    by_cases hlt : m < n
    · have hI : (m : Int) < (n : Int) := by omega
      have e1 : wr.frozen? ⟨w.heap.size, m, none⟩ = false := frozen_of_row _ _ _ _ _ hg
      have e2 : wr.cell? ⟨w.heap.size, m, none⟩ = some (.int .u8 0) := by
        rw [cell_of_row _ _ _ _ _ _ hg, List.getElem?_toArray, List.getElem?_append_right (by simp), List.length_replicate, Nat.sub_self, List.getElem?_replicate, if_pos (by omega)]
      clear hg
      go_wp2
      refine ⟨⟨m + 1, by omega, by go_num, ?_, HB.out.setCell (Nat.le_refl _) _⟩, by simp [intOf]; omega⟩
      rw [heap_setCell_same _ _ _ _ _ _ HG.out, List.setIfInBounds_toArray, fill_step _ _ hlt]
    · obtain rfl : m = n := by omega
      clear hg
      have hcv := run_bytes_at Tryz.prog wr w.heap.size 0 m (List.replicate m 255) 22 9 5 m (by simp) Tryz.underlying22 Tryz.underlying5 Tryz.underlying9 (fun j u hu => by
        have hjm : j < m := by have := (List.getElem?_eq_some_iff.1 hu).1; simpa using this
        rw [Nat.zero_add, cell_of_row _ _ _ _ _ _ HG.out, List.getElem?_toArray, List.getElem?_append_left (by simpa using hjm), List.getElem?_replicate, if_pos hjm]
        rw [List.getElem?_replicate, if_pos hjm] at hu
        cases hu; rfl)
      go_wp2_with fail
      refine (ropen_yes ⟨(List.replicate m 255).toArray⟩ _ (by show sizeB (List.replicate m (255 : UInt8)).toArray.size = true; simp [HSZ.out])).mono ?_
      rintro e w2 ⟨p, bb, cb, rfl, hf, hp, hbb, hcb, hb2⟩
      have hz := HB.out.size
      go_wp2
      go_ret2
      exact ⟨p, bb, cb, rfl, hf.to (by rw [← HN.out]), by omega, by omega, by omega, HB.out.trans (hb2.mono hz)⟩
end Go.Proofs.YtjednaendedpdaaGreat
namespace Go.Proofs.YtjednaendedpdaaGreat
set_option maxRecDepth 100000
set_option linter.unusedVariables false
open Go Go.RowKit

theorem info_tb8 : (Tryz.prog.info? 5).map (fun i => (i.zero, i.size, i.bytes)) = some (some (.int .u8 0), 1, 1) := by kernel_rfl
theorem leList_snoc (n : Nat) : ∀ j m, leList (j + 1) m = leList j m ++ [UInt8.ofNat (m / 256 ^ j % 256)]
  | 0, m => by simp [leList]
  | j + 1, m => by
    rw [leList, leList_snoc n j (m / 256), leList, Nat.div_div_eq_div_mul, ← Nat.pow_succ']; rfl
set_option maxHeartbeats 2000000 in
theorem rcput_any (n k : Nat) (hk : 1 ≤ k ∧ k ≤ 7) (hn : n < 256 ^ k) (w : World) :
    Calls Tryz.prog 66 #[.int .i64 n, .int .i64 k] w fun e w' => e = .returned (.tuple #[.string ⟨(leList k n).toArray⟩, .int .i64 0]) ∧ Below w.heap.size w w' := by
  obtain ⟨h1, h7⟩ := hk
  have g0 : decide ((k : Int) < 1) = false := by rw [decide_eq_false_iff_not]; omega
  have g1 : decide (7 < (k : Int)) = false := by rw [decide_eq_false_iff_not]; omega
  have g2 : decide ((n : Int) < 0) = false := by rw [decide_eq_false_iff_not]; omega
  have HN := Box.mk hn
  have HN7 : Box (n < 72057594037927936) := ⟨Nat.lt_of_lt_of_le hn (Nat.le_trans (Nat.pow_le_pow_right (by omega) h7) (by decide))⟩
  have hk7 : (k : Int) ≤ 7 := by omega
  obtain ⟨i0, hi0, hz0, hsz0, hby0⟩ := info_parts info_tb8
  have O0 : (w.alloc (.cells #[] 5)).ownsRow w.heap.size 5 1 (.slice (some ⟨w.heap.size, 0, none⟩) 0 0) 0 [] := World.ownsRow_lit (base := w.heap.size) (size := 1) (e := 5) w #[] 0 (Nat.le_refl _) (by unfold maxLen; omega) rfl
  have O0 := Box.mk O0
  clear hn
  go_enter Tryz.func66, Tryz.ntmps66
  go_wp2
  go_loopw [0, 6, 7] (fun m v i wr => ∃ j : Nat, j ≤ k ∧ i = .int .i64 (j : Nat) ∧ m = .int .i64 ((n / 256 ^ j : Nat) : Int) ∧ wr.ownsRow w.heap.size 5 1 v j ((leList j n).map bval) ∧ Below w.heap.size w wr) (fun _ _ i _ => k - (intOf i).toNat)
  case atStart => exact ⟨0, by omega, rfl, by rw [Nat.pow_zero, Nat.div_one], O0.out, (Below.refl _ _).alloc (Nat.le_refl _) _⟩
  case round =>
    clear O0
    obtain ⟨j, hj, rfl, rfl, hown, hb⟩ := hrel
    have HO := Box.mk hown; have HB := Box.mk hb
    clear hown hb
    by_cases hlt : j < k
    · have hI : (j : Int) < (k : Int) := by omega
      obtain ⟨m, hm⟩ : ∃ m, m = n / 256 ^ j := ⟨_, rfl⟩
      have hnx : m / 256 = n / 256 ^ (j + 1) := by rw [hm, Nat.div_div_eq_div_mul, ← Nat.pow_succ]
      rw [← hm]
      obtain ⟨d, hd, HD⟩ : ∃ d : Nat, (m : Int).tmod 256 = (d : Int) ∧ Box (d = m % 256) := ⟨m % 256, by rw [Int.tmod_eq_emod_of_nonneg (by omega)]; omega, ⟨rfl⟩⟩
      obtain ⟨q, hq, HQ⟩ : ∃ q : Nat, (m : Int).tdiv 256 = (q : Int) ∧ Box (q = m / 256) := ⟨m / 256, by rw [Int.tdiv_eq_ediv_of_nonneg (by omega)]; omega, ⟨rfl⟩⟩
      have hwq : IntKind.i64.wrap (q : Int) = (q : Int) := by
        have h1 : m ≤ n := by rw [hm]; exact Nat.div_le_self _ _
        have := HN7.out; have := HQ.out
        rw [IntKind.wrap_i64]; omega
      have hd8 : IntKind.u8.wrap (d : Int) = (d : Int) := by rw [IntKind.wrap_u8]; have := HD.out; omega
      have HMm := Box.mk hm; have HNX := Box.mk hnx
      have S9 := Box.mk HB.out.size; have HL := Box.mk hlt
      have RR : Box (∀ k u, [Value.int .u8 (d : Int)][k]? = some u → (wr.alloc (.cells #[.int .u8 (d : Int)] 5)).cell? ((⟨wr.heap.size, 0, none⟩ : Addr).add k) = some u) := ⟨fun k u hk => by
        match k, hk with
        | 0, hk => simp at hk; subst hk; show (wr.alloc _).cell? ⟨_, 0 + 0, none⟩ = _; rw [cell_of_row _ _ _ _ _ _ (heap_alloc_new _ _)]; rfl
        | k + 1, hk => simp at hk⟩
      clear hm hnx hlt
      go_wp2_with (at_builtin; refine wpList_append_own _ rfl (.tmp 24) (.tmp 28) 22 rfl w.heap.size 5 i0 (.int .u8 0) 1 1 Tryz.underlying22 hi0 hz0 hsz0 hby0 rfl (by decide) _ j _ rfl (own_alloc HO.out _) ⟨wr.heap.size, 0, none⟩ 1 1 [.int .u8 (d : Int)] rfl rfl RR.out (fun u hu => by simp at hu; subst hu; rfl) (by unfold maxLen; omega) (by omega) (by have := S9.out; simp; omega) ?_; intro v' w' hown' hgrow hnil)
      refine ⟨⟨j + 1, HL.out, by go_num, by rw [← HNX.out, ← HQ.out], ?_, ((HB.out.alloc HB.out.size _).grown hgrow (by have := HB.out.size; simp; omega) (fun k e => (World.ownsRow.lt HO.out k e).1))⟩, by have := HL.out; simp [intOf]; omega⟩
      rw [leList_snoc 0, List.map_append]
      have e : bval (UInt8.ofNat (n / 256 ^ j % 256)) = .int .u8 (d : Int) := by
        unfold bval; rw [HD.out, HMm.out]; congr 1; rw [UInt8.toNat_ofNat']; omega
      simp only [List.map_cons, List.map_nil]
      rw [e]
      exact hown'
    · have hI : ¬ (j : Int) < (k : Int) := by omega
      obtain rfl : j = k := by omega
      have hz : n / 256 ^ j = 0 := Nat.div_eq_of_lt HN.out
      rw [hz]
      obtain ⟨g, cap, rfl⟩ := own_form HO.out (by omega)
      have hcv := run_bytes_at Tryz.prog wr g 0 cap (leList j n) 22 9 5 j (leList_length _ _) Tryz.underlying22 Tryz.underlying5 Tryz.underlying9 (fun i u hu => by
        have hi := (List.getElem?_eq_some_iff.1 hu).1
        rw [leList_length] at hi
        rw [Nat.zero_add, HO.out.cellAt i (by omega), List.getElem?_map, hu]; rfl)
      clear hz
      go_wp2
      go_ret2
      exact ⟨rfl, HB.out⟩
set_option maxHeartbeats 2000000 in
theorem rfirst_any (num : Nat) (hn : num < 281474976710656) (w : World) : Calls Tryz.prog 33 #[.int .i64 num] w fun e w' => e = .returned (.string ⟨(firstL num).toArray⟩) ∧ Below w.heap.size w w' := by
  have PU := Box.mk (fun w => rcput_any num 6 (by omega) (by rw [show (256 : Nat) ^ 6 = 281474976710656 from rfl]; exact hn) w)
  obtain ⟨N6, hN6⟩ : ∃ N : ByteArray, N = ⟨(leList 6 num).toArray⟩ := ⟨_, rfl⟩
  rw [← hN6] at PU
  have HN6 := Box.mk hN6
  have hs6 : N6.size = 6 := by rw [hN6]; show (leList 6 num).toArray.size = 6; simp [leList_length]
  have hmk := fun w => make_bytes 64 64 rfl (by omega) w
  clear hn hN6
  go_enter Tryz.func33, Tryz.ntmps33
  go_wp2_with fail
  go_loopw [4] (fun i wr => ∃ m : Nat, m ≤ 64 ∧ i = .int .i64 (m : Nat) ∧ wr.heap[w.heap.size]? = some (.cells (List.replicate m (bval 255) ++ List.replicate (64 - m) (Value.int .u8 0)).toArray 5 (0, 0)) ∧ Below w.heap.size w wr) (fun i _ => 64 - (intOf i).toNat)
  case atStart => exact ⟨0, by omega, rfl, by rw [heap_alloc_new]; rfl, (Below.refl _ _).alloc (Nat.le_refl _) _⟩
  case round =>
    obtain ⟨m, hm, rfl, hg, hb⟩ := hrel
    have HG := Box.mk hg; have HB := Box.mk hb; clear hb
    by_cases hlt : m < 64
    · have hI : (m : Int) < 64 := by omega
      have e1 : wr.frozen? ⟨w.heap.size, m, none⟩ = false := frozen_of_row _ _ _ _ _ hg
      have e2 : wr.cell? ⟨w.heap.size, m, none⟩ = some (.int .u8 0) := by
        rw [cell_of_row _ _ _ _ _ _ hg, List.getElem?_toArray, List.getElem?_append_right (by simp), List.length_replicate, Nat.sub_self, List.getElem?_replicate, if_pos (by omega)]
      clear hg
      go_wp2_with fail
      refine ⟨⟨m + 1, by omega, by go_num, ?_, HB.out.setCell (Nat.le_refl _) _⟩, by simp [intOf]; omega⟩
      rw [heap_setCell_same _ _ _ _ _ _ HG.out, List.setIfInBounds_toArray, fill_step _ _ hlt]
    · obtain rfl : m = 64 := by omega
      clear hg
      go_wp2_with fail
      refine (PU.out _).mono ?_
      rintro e w2 ⟨rfl, hb2⟩
      obtain ⟨g, hg⟩ : ∃ g, g = w.heap.size := ⟨_, rfl⟩
      rw [← hg]
      have hgl : g < wr.heap.size := (Array.getElem?_eq_some_iff.1 (hg ▸ HG.out)).1
      have G2 : w2.heap[g]? = some (.cells ((List.replicate 64 (255 : UInt8)).map bval).toArray 5 (0, 0)) := by
        rw [hb2.block g hgl, hg, HG.out]; congr 2
      have B2 := Box.mk (HB.out.trans (hb2.mono HB.out.size))
      have HGW := Box.mk (show w.heap.size ≤ g by omega)
      have e1 : w2.frozen? ⟨g, 0, none⟩ = false := frozen_of_row _ _ _ _ _ G2
      have e2 : w2.cell? ⟨g, 0, none⟩ = some (.int .u8 255) := by rw [cell_of_row _ _ _ _ _ _ G2]; rfl
      have HG2 := Box.mk G2
      clear hb2 HG HB G2 hg hmk
      go_upto_region 8 with (fail)
      obtain ⟨W3, hW3⟩ : ∃ W, W = w2.setCell ⟨g, 0, none⟩ (.int .u8 83) := ⟨_, rfl⟩
      rw [← hW3]
      have HG3 : Box (W3.heap[g]? = some (.cells ((83 :: List.replicate 63 (255 : UInt8)).map bval).toArray 5 (0, 0))) := ⟨by
        rw [hW3, heap_setCell_same _ _ _ _ _ _ HG2.out]; congr 2⟩
      have B3 := Box.mk (show Below w.heap.size w W3 by rw [hW3]; exact B2.out.setCell HGW.out _)
      have HMM : Box (6 = min N6.size 63) := ⟨by rw [hs6]; rfl⟩
      have HFIT : Box (1 + 6 ≤ ((83 :: List.replicate 63 (255 : UInt8)).map bval).toArray.size) := ⟨by rw [List.size_toArray, List.length_map, List.length_cons, List.length_replicate]; omega⟩
      have HINF : Box ((Tryz.prog.info? 5).map (·.size) = some 1) := ⟨by kernel_rfl⟩
      obtain ⟨W4, hW4⟩ : ∃ W, W = W3.setRow g (((83 :: List.replicate 63 (255 : UInt8)).map bval).toArray.toList.take 1 ++ (N6.data.toList.take 6).map bval ++ ((83 :: List.replicate 63 (255 : UInt8)).map bval).toArray.toList.drop (1 + 6)).toArray := ⟨_, rfl⟩
      have HW4 := Box.mk hW4
      have HG4 : Box (W4.heap[g]? = some (.cells ((begL num ++ List.replicate 57 (255 : UInt8)).map bval).toArray 5 (0, 0))) := ⟨by
        rw [hW4, setRow_heap _ _ _ _ _ _ HG3.out]
        have h6 : N6.data.toList = leList 6 num := by rw [HN6.out]
        rw [h6, show List.take 6 (leList 6 num) = leList 6 num from List.take_of_length_le (by rw [leList_length]; exact Nat.le_refl _)]
        congr 2⟩
      have B4 := Box.mk (show Below w.heap.size w W4 by rw [hW4]; exact below_setRow B3.out HGW.out _)
      clear hW3 hW4 e1 e2 B2 HG2
      go_upto_region 9 with ((with_reducible refine wpList_copy_str rfl (.tmp 23) (.tmp 24) 22 9 rfl 5 Tryz.underlying22 HINF.out g 1 63 63 N6 rfl rfl _ 5 HG3.out 6 HMM.out HFIT.out W4 HW4.out ?_))
      have e1 : W4.frozen? ⟨g, 7, none⟩ = false := frozen_of_row _ _ _ _ _ HG4.out
      have e2 : W4.cell? ⟨g, 7, none⟩ = some (.int .u8 255) := by
        rw [cell_of_row _ _ _ _ _ _ HG4.out, List.getElem?_toArray, List.getElem?_map, List.getElem?_append_right (by simp [begL, leList_length])]
        simp [begL, leList_length]; rfl
      clear HG3 B3 HW4
      go_upto_region 10 with (fail)
      obtain ⟨W5, hW5⟩ : ∃ W, W = W4.setCell ⟨g, 7, none⟩ (.int .u8 0) := ⟨_, rfl⟩
      rw [← hW5]
      have HG5 : Box (W5.heap[g]? = some (.cells ((firstL num).map bval).toArray 5 (0, 0))) := ⟨by
        rw [hW5, heap_setCell_same _ _ _ _ _ _ HG4.out]; congr 1⟩
      have B5 := Box.mk (show Below w.heap.size w W5 by rw [hW5]; exact B4.out.setCell HGW.out _)
      clear hW5 e1 e2 HG4 B4
      have hcv := run_bytes_at Tryz.prog W5 g 0 64 (firstL num) 22 9 5 64 (firstL_len _) Tryz.underlying22 Tryz.underlying5 Tryz.underlying9 (fun i u hu => by
        rw [Nat.zero_add, cell_of_row _ _ _ _ _ _ HG5.out, List.getElem?_toArray, List.getElem?_map, hu]; rfl)
      go_wp2_with fail
      go_ret
      exact ⟨rfl, B5.out⟩
/-- The document's log lies at g. -/
structure RLg (w : World) (g q : Nat) (v : Value) (l : LS) : Prop where
  row : w.heap[g]? = some (.cells #[.pointer (some ⟨q, 0, none⟩), v, .bool l.dead] 82 (0, 0))
  own : w.ownsRow 0 87 2 v l.segs.length (segC l.segs)
theorem RLg.cells {w : World} {g q : Nat} {v : Value} {l : LS} (h : RLg w g q v l) : w.cell? ⟨g, 0, none⟩ = some (.pointer (some ⟨q, 0, none⟩)) ∧ w.cell? ⟨g, 1, none⟩ = some v ∧ w.cell? ⟨g, 2, none⟩ = some (.bool l.dead) := by
  refine ⟨?_, ?_, ?_⟩ <;> (rw [cell_of_row _ _ _ _ _ _ h.row]; rfl)
theorem RLg.lt {w : World} {g q : Nat} {v : Value} {l : LS} (h : RLg w g q v l) : g < w.heap.size := (Array.getElem?_eq_some_iff.1 h.row).1
theorem RLg.free {w : World} {g q : Nat} {v : Value} {l : LS} (h : RLg w g q v l) (i : Nat) : w.frozen? ⟨g, i, none⟩ = false := frozen_of_row _ _ _ _ _ h.row
theorem RLg.upd {w w' : World} {g q : Nat} {v : Value} {l : LS} {S : List Nat} (h : RLg w g q v l) (hu : Upd S w w') (hn : g ∉ S) (hv : ∀ k, v.ownBlock = some k → k ∉ S) : RLg w' g q v l :=
  ⟨(hu.block _ h.lt hn).trans h.row, own_keep h.own fun k hk hl => hu.block k hl (hv k hk)⟩
theorem RLg.setDead {w : World} {g q : Nat} {v : Value} {l : LS} (h : RLg w g q v l) (hv : ∀ k, v.ownBlock = some k → k ≠ g) (b : Bool) : RLg (w.setCell ⟨g, 2, none⟩ (.bool b)) g q v { l with dead := b } :=
  ⟨by rw [heap_setCell_same _ _ _ _ _ _ h.row]; rfl, own_keep h.own fun k hk _ => heap_setCell_other _ _ _ _ (hv k hk)⟩
structure RLgS (w : World) (F B : Int) (g q p bb cb : Nat) (v : Value) (s : FS) (l : LS) : Prop where
  ap : Lap g q p bb cb v
  f : Fl 66 w p bb cb s
  ok : s.Ok
  pa : RPa w q p F B
  i : In s.n.length F B
  lg : RLg w g q v l
theorem RLgS.flash {w w' : World} {F B : Int} {g q p bb cb : Nat} {v : Value} {s s' : FS} {l : LS} (h : RLgS w F B g q p bb cb v s l) (hf : Fl 66 w' p bb cb s') (ho : s'.Ok) (hn : s'.n.length = s.n.length) (hu : Upd [p, bb, cb] w w') : RLgS w' F B g q p bb cb v s' l :=
  ⟨h.ap, hf, ho, h.pa.upd hu (fun hm => h.ap.hq (List.mem_cons_of_mem _ hm)), by rw [hn]; exact h.i, h.lg.upd hu h.ap.hg fun k hk hm => h.ap.hv k hk (List.mem_cons_of_mem _ (List.mem_cons_of_mem _ hm))⟩
theorem RLgS.own {w w' : World} {F B : Int} {g q p bb cb : Nat} {v : Value} {s : FS} {l l' : LS} (h : RLgS w F B g q p bb cb v s l) (hl : RLg w' g q v l') (hu : Upd [g] w w') : RLgS w' F B g q p bb cb v s l' :=
  ⟨h.ap, h.f.upd hu (by simp; exact h.ap.nm.1) (by simp; exact h.ap.nm.2.1) (by simp; exact h.ap.nm.2.2.1), h.ok, h.pa.upd hu (by simp; exact h.ap.nm.2.2.2.1), h.i, hl⟩
theorem RLgS.keep {w w' : World} {F B : Int} {g q p bb cb : Nat} {v : Value} {s : FS} {l : LS} (h : RLgS w F B g q p bb cb v s l) (hu : Upd [] w w') : RLgS w' F B g q p bb cb v s l :=
  ⟨h.ap, h.f.upd hu (by simp) (by simp) (by simp), h.ok, h.pa.upd hu (by simp), h.i, h.lg.upd hu (by simp) (by simp)⟩
theorem RLgS.vg {w : World} {F B : Int} {g q p bb cb : Nat} {v : Value} {s : FS} {l : LS} (h : RLgS w F B g q p bb cb v s l) : ∀ k, v.ownBlock = some k → k ≠ g := fun k hk e => h.ap.hv k hk (by rw [e]; exact List.mem_cons_self ..)
theorem rlblocks_any (g q p : Nat) (F B : Int) (v : Value) (l : LS) (w : World) (h : RLg w g q v l) (hp : RPa w q p F B) :
    Calls Tryz.prog 30 #[.pointer (some ⟨g, 0, none⟩)] w fun e w' => e = .returned (.int .i64 B) ∧ w = w' := by
  obtain ⟨c0, c1, c2⟩ := h.cells
  obtain ⟨d0, d1, d2⟩ := hp.cells
  clear h hp c1 c2
  go_enter Tryz.func30, Tryz.ntmps30
  go_wp2
  go_ret
  exact ⟨rfl, rfl⟩
theorem rltold_any (g q : Nat) (v : Value) (l : LS) (e : Int) (w : World) (h : RLg w g q v l) (hv : ∀ k, v.ownBlock = some k → k ≠ g) :
    Calls Tryz.prog 99 #[.pointer (some ⟨g, 0, none⟩), .int .i64 e] w fun x w' => x = .returned (.int .i64 e) ∧ RLg w' g q v (l.told e) ∧ Upd [g] w w' := by
  obtain ⟨c0, c1, c2⟩ := h.cells
  have f2 := h.free 2
  have L1 := Box.mk (fun b => h.setDead hv b)
  unfold LS.told
  generalize l.dead = dd at c2 ⊢
  clear h hv c0 c1
  cases dd with
  | true =>
    go_enter Tryz.func99, Tryz.ntmps99
    go_wp2
    go_ret
    exact ⟨rfl, L1.out true, (Upd.refl _ _).setCell (by simp) _⟩
  | false =>
    go_enter Tryz.func99, Tryz.ntmps99
    go_wp2
    go_ret
    exact ⟨rfl, L1.out (e == 2), (Upd.refl _ _).setCell (by simp) _⟩
end Go.Proofs.YtjednaendedpdaaGreat
namespace Go.Proofs.YtjednaendedpdaaGreat
set_option maxRecDepth 100000
set_option linter.unusedVariables false
open Go Go.RowKit

set_option maxHeartbeats 1000000 in
theorem rlclean_any (g q p bb cb : Nat) (F B : Int) (v : Value) (s : FS) (l : LS) (k : Nat) (w : World) (h : RLgS w F B g q p bb cb v s l) (hk : k ≤ 256) :
    Calls Tryz.prog 77 #[.pointer (some ⟨g, 0, none⟩), .int .i64 k] w fun e w' => e = .returned (.int .i64 (s.lclean F B l k).2.2) ∧ RLgS w' F B g q p bb cb v (s.lclean F B l k).1 (s.lclean F B l k).2.1 ∧ Upd [g, p, bb, cb] w w' := by
  obtain ⟨c0, c1, c2⟩ := h.lg.cells
  obtain ⟨a, ha, HA⟩ : ∃ x : Nat, IntKind.i64.wrap (512 * (k : Int)) = (x : Int) ∧ Box (x = 512 * k) := ⟨512 * k, by rw [IntKind.wrap_i64]; omega, ⟨rfl⟩⟩
  have PC := Box.mk (fun w (h : RLgS w F B g q p bb cb v s l) => rpclean_any q p bb cb F B s (a : Nat) 512 w h.f h.ok h.pa h.i (by have := HA.out; omega) (by omega))
  rw [HA.out] at PC
  have PE := Box.mk (fun w (h : RLgS w F B g q p bb cb v s l) => rperase_any q p bb cb F B s (k : Int) w h.f h.ok h.pa h.i)
  have TD := Box.mk (fun s w (h : RLgS w F B g q p bb cb v s l) e => rltold_any g q v l e w h.lg h.vg)
  have HC := Box.mk (show s.wclean F B k = if (pcleanV s F B (512 * k : Nat) 512).2 ≠ 0 then (s, (pcleanV s F B (512 * k : Nat) 512).2) else if (pcleanV s F B (512 * k : Nat) 512).1 = true then (s, 0) else s.perase F B k from rfl)
  have EO := Box.mk (FS.perase_ok h.ok F B k)
  unfold FS.lclean
  generalize s.wclean F B k = c at HC ⊢
  generalize s.perase F B (k : Int) = r at PE HC EO
  generalize pcleanV s F B ((512 * k : Nat) : Int) 512 = x at PC HC
  obtain ⟨x1, x2⟩ := x
  obtain ⟨r1, r2⟩ := r
  dsimp only at PC HC PE EO ⊢
  rw [← HA.out] at PC
  have H := Box.mk h
  have hkI : (k : Int) ≤ 256 := by omega
  clear h c1 c2 hk
  by_cases hx : x2 = 0
  · have hxb : (x2 == 0) = true := by simpa using hx
    have hc := HC.out
    rw [if_neg (by simpa using hx)] at hc
    cases x1 with
    | true =>
      rw [if_pos rfl] at hc
      subst hx
      subst hc
      dsimp only
      clear HC PE EO
      go_enter Tryz.func77, Tryz.ntmps77
      go_wp2_with fail
      refine (PC.out _ H.out).mono ?_
      rintro e w1 ⟨rfl, u1⟩
      have H1 := Box.mk (H.out.keep u1); have U1 := Box.mk (u1.mono (T := [g, p, bb, cb]) (by simp)); clear u1
      go_wp2_with fail
      refine (TD.out _ _ H1.out _).mono ?_
      rintro e w1 ⟨rfl, hl, hu⟩
      have L1 := Box.mk (H1.out.own hl hu); have U2 := Box.mk (U1.out.trans (hu.mono (T := [g, p, bb, cb]) (by simp))); clear hl hu
      go_wp2_with fail
      go_ret
      exact ⟨rfl, L1.out, U2.out⟩
    | false =>
      rw [if_neg (by simp)] at hc
      subst hc
      dsimp only
      clear HC
      go_enter Tryz.func77, Tryz.ntmps77
      go_wp2_with fail
      refine (PC.out _ H.out).mono ?_
      rintro e w1 ⟨rfl, u1⟩
      have H1 := Box.mk (H.out.keep u1); have U1 := Box.mk (u1.mono (T := [g, p, bb, cb]) (by simp)); clear u1
      obtain ⟨d0, d1, d2⟩ := H1.out.lg.cells
      go_wp2_with fail
      refine (PE.out _ H1.out).mono ?_
      rintro e w2 ⟨rfl, hf, hu⟩
      have H2 := Box.mk (H1.out.flash hf EO.out.1 EO.out.2 hu); have U2 := Box.mk (U1.out.trans (hu.mono (T := [g, p, bb, cb]) (by simp))); clear hf hu
      go_wp2_with fail
      refine (TD.out _ _ H2.out _).mono ?_
      rintro e w1 ⟨rfl, hl, hu⟩
      have L1 := Box.mk (H2.out.own hl hu); have U3 := Box.mk (U2.out.trans (hu.mono (T := [g, p, bb, cb]) (by simp))); clear hl hu
      go_wp2_with fail
      go_ret
      exact ⟨rfl, L1.out, U3.out⟩
  · have hxb : (x2 == 0) = false := by rw [beq_eq_false_iff_ne]; exact hx
    have hc := HC.out
    rw [if_pos hx] at hc
    subst hc
    dsimp only
    clear HC PE EO hx
    go_enter Tryz.func77, Tryz.ntmps77
    go_wp2_with fail
    refine (PC.out _ H.out).mono ?_
    rintro e w1 ⟨rfl, u1⟩
    have H1 := Box.mk (H.out.keep u1); have U1 := Box.mk (u1.mono (T := [g, p, bb, cb]) (by simp)); clear u1
    go_wp2_with fail
    refine (TD.out _ _ H1.out _).mono ?_
    rintro e w1 ⟨rfl, hl, hu⟩
    have L1 := Box.mk (H1.out.own hl hu); have U2 := Box.mk (U1.out.trans (hu.mono (T := [g, p, bb, cb]) (by simp))); clear hl hu
    go_wp2_with fail
    go_ret
    exact ⟨rfl, L1.out, U2.out⟩
theorem rlpwrite_any (g q p bb cb : Nat) (F B : Int) (v : Value) (s : FS) (l : LS) (a : Nat) (t : List UInt8) (w : World) (h : RLgS w F B g q p bb cb v s l) (ha : a ≤ 1000000) (ht : t.length ≤ 1000000) :
    Calls Tryz.prog 100 #[.pointer (some ⟨q, 0, none⟩), .int .i64 (a : Nat), .string ⟨t.toArray⟩] w fun e w' => e = .returned (.int .i64 (s.pwrite F B a t).2) ∧ RLgS w' F B g q p bb cb v (s.pwrite F B a t).1 l ∧ Upd [p, bb, cb] w w' :=
  (rpwrite_any q p bb cb F B s a ⟨t.toArray⟩ w h.f h.ok h.pa h.i h.ap.nm.2.2.2.2.2.1 h.ap.nm.2.2.2.2.1 (by omega) (by show (t.toArray.size : Nat) ≤ _; rw [List.size_toArray]; omega)).mono fun e w' ⟨he, hf, hu⟩ => ⟨he, h.flash hf (FS.pwrite_ok h.ok F B a _).1 (FS.pwrite_ok h.ok F B a _).2 (hu.mono (by simp)), hu.mono (by simp)⟩
theorem rlfirst_any (g q p bb cb : Nat) (F B : Int) (v : Value) (s : FS) (l : LS) (num : Nat) (hn : num < 281474976710656) (w : World) (h : RLgS w F B g q p bb cb v s l) : Calls Tryz.prog 33 #[.int .i64 num] w fun e w' => e = .returned (.string ⟨(firstL num).toArray⟩) ∧ RLgS w' F B g q p bb cb v s l ∧ Upd [] w w' :=
  (rfirst_any num hn w).mono fun e w' ⟨he, hb⟩ => ⟨he, h.keep (Upd.of_below hb), Upd.of_below hb⟩
theorem info_rseg : (Tryz.prog.info? 87).map (fun i => (i.zero, i.size, i.bytes)) = some (some (.agg #[.int .i64 0, .int .i64 0]), 2, 16) := by kernel_rfl
set_option maxHeartbeats 2000000 in
theorem rlmakes_any (g q p bb cb : Nat) (F B : Nat) (s : FS) (k num : Nat) (w : World) (h : RLgS w (F : Nat) (B : Nat) g q p bb cb (.slice none 0 0) s ⟨[], false⟩) (hk : k ≤ 256) (hnum : num < 281474976710656) :
    Calls Tryz.prog 78 #[.pointer (some ⟨g, 0, none⟩), .int .i64 (k : Nat), .int .i64 (num : Nat)] w fun e w' => e = .returned (.int .i64 (s.lmakes (F : Nat) (B : Nat) ⟨[], false⟩ k num).2.2) ∧ Upd [g, p, bb, cb] w w' := by
  have CL := Box.mk (rlclean_any g q p bb cb (F : Nat) (B : Nat) (.slice none 0 0) s ⟨[], false⟩ k w h hk)
  obtain ⟨R, hR⟩ : ∃ R, R = s.lmakes (F : Nat) (B : Nat) ⟨[], false⟩ k num := ⟨_, rfl⟩
  rw [← hR]
  have HM := Box.mk hR
  clear hR
  unfold FS.lmakes at HM
  have O1 := FS.lclean_ok h.ok (F : Nat) (B : Nat) ⟨[], false⟩ k
  generalize s.lclean (F : Nat) (B : Nat) ⟨[], false⟩ k = c at CL HM O1
  obtain ⟨s1, l1, e1⟩ := c
  dsimp only at CL HM O1
  obtain ⟨a, ha, HA⟩ : ∃ x : Nat, IntKind.i64.wrap (512 * (k : Int)) = (x : Int) ∧ Box (x = 512 * k) := ⟨512 * k, by rw [IntKind.wrap_i64]; omega, ⟨rfl⟩⟩
  obtain ⟨a7, ha7, HA7⟩ : ∃ x : Nat, IntKind.i64.wrap ((a : Int) + 7) = (x : Int) ∧ Box (x = 512 * k + 7) := ⟨512 * k + 7, by rw [IntKind.wrap_i64, HA.out]; omega, ⟨rfl⟩⟩
  have HKK := Box.mk (show a ≤ 200000 ∧ a7 ≤ 200000 from by have := HA.out; have := HA7.out; omega)
  rw [← HA.out] at HM
  clear hk
  by_cases he1 : e1 = 0
  · have hb1 : (e1 == 0) = true := by simpa using he1
    have hm := HM.out
    rw [if_neg (by simpa using he1)] at hm
    unfold FS.lwrite at hm
    dsimp only at hm
    have HM := Box.mk hm
    clear hm
    go_enter Tryz.func78, Tryz.ntmps78
    go_wp2_with fail
    refine CL.out.mono ?_
    rintro e w1 ⟨rfl, h1, u1⟩
    have H1 := Box.mk h1; have U1 := Box.mk u1; clear h1 u1
    obtain ⟨c0, c1, c2⟩ := H1.out.lg.cells
    have LT : Box (∀ k ∈ [p, bb, cb], k < w1.heap.size) := ⟨by have := H1.out.f.lt; intro k hk; simp at hk; omega⟩
    have GN := Box.mk H1.out.ap.hg
    have FI := Box.mk (fun w1 h => rlfirst_any g q p bb cb (F : Nat) (B : Nat) (.slice none 0 0) s1 l1 num hnum w1 h)
    have PW := Box.mk (fun w1 h => rlpwrite_any g q p bb cb (F : Nat) (B : Nat) (.slice none 0 0) s1 l1 a (begL num) w1 h (by have := HKK.out; omega) (by simp [begL, leList_length]))
    have HX7 : Box ((⟨(firstL num).toArray⟩ : ByteArray).extract 0 7 = ⟨(begL num).toArray⟩) := ⟨by
      apply ba_ext; rw [ba_cut]
      show (List.drop 0 (firstL num)).take 7 = begL num
      rw [List.drop_zero]; unfold firstL
      rw [List.take_append_of_le_length (by simp [begL, leList_length]), List.take_of_length_le (by simp [begL, leList_length])]⟩
    have hfs : (⟨(firstL num).toArray⟩ : ByteArray).size = 64 := by show (firstL num).toArray.size = 64; rw [List.size_toArray, firstL_len]
    generalize s1.pwrite (F : Nat) (B : Nat) (a : Nat) (begL num) = r at PW HM
    obtain ⟨r1, r2⟩ := r
    dsimp only at PW HM
    go_upto_region 3 with (fail)
    refine wp_region_mixS [p, bb, cb] (fun w => RLgS w (F : Nat) (B : Nat) g q p bb cb (.slice none 0 0) s1 l1) (fun w w' hg h => h.keep hg.upd) (H1.out.keep (Upd.refl [] w1).drew) (LT.out) 11 [.flo, .flo, .flo, .flo, .flo, .flo, .flo, .flo, .cha, .flo, .cha] (by kernel_rfl) (by kernel_rfl) rfl ?_
    simp only [List.take, List.zip, List.zipWith]
    try go_frame
    refine gm_move (.tmp 0) (.inl rfl) (.pointer (some ⟨g, 0, none⟩)) rfl ?_
    try go_frame
    refine gm_move (.tmp 0) (.inl rfl) (.pointer (some ⟨g, 0, none⟩)) rfl ?_
    try go_frame
    refine gm_flo (.pointer (some ⟨g, 0, none⟩)) (fun w1 hw1 => ?_) ?_
    case refine_1 =>
      go_simp
    try go_frame
    refine gm_flo (.pointer (some ⟨g, 0, none⟩)) (fun w1 hw1 => ?_) ?_
    case refine_1 =>
      go_simp
    try go_frame
    refine gm_flo (.pointer (some ⟨q, 0, none⟩)) (fun w1 hw1 => ?_) ?_
    case refine_1 =>
      have e1 : w1.cell? ⟨g, 0, none⟩ = some (.pointer (some ⟨q, 0, none⟩)) := (cell_of_row _ _ _ _ _ _ (hw1.at (GN.out) H1.out.lg.row)).trans rfl
      go_simp
    try go_frame
    refine gm_move (.tmp 1) (.inl rfl) (.int .i64 (k : Nat)) rfl ?_
    try go_frame
    refine gm_flo (.int .i64 (a : Nat)) (fun w1 hw1 => ?_) ?_
    case refine_1 =>
      go_simp
    try go_frame
    refine gm_move (.tmp 2) (.inl rfl) (.int .i64 (num : Nat)) rfl ?_
    try go_frame
    refine gm_callS [.int .i64 (num : Nat)] (by kernel_rfl) rfl rfl (fun w1 hw1 hF1 => (FI.out w1 hF1).mono ?_)
    rintro e w2 ⟨rfl, hf, hu⟩
    refine ⟨_, rfl, GrS.of_upd hu (by simp), ((fun w => RLgS w (F : Nat) (B : Nat) g q p bb cb (.slice none 0 0) s1 l1)), ((fun w w' hg h => h.keep hg.upd)), (hf), ?_⟩
    clear hw1 hF1 hf hu w1 w2
    try go_frame
    refine gm_flo (.string ((⟨(firstL num).toArray⟩ : ByteArray).extract 0 7)) (fun w1 hw1 => ?_) ?_
    case refine_1 =>
      go_simp
    try go_frame
    rw [HX7.out]
    refine gm_callS [.pointer (some ⟨q, 0, none⟩), .int .i64 (a : Nat), .string ⟨(begL num).toArray⟩] (by kernel_rfl) rfl rfl (fun w1 hw1 hF1 => (PW.out w1 hF1).mono ?_)
    rintro e w2 ⟨rfl, hf, hu⟩
    refine ⟨_, rfl, GrS.of_upd hu (by simp), ((fun w => RLgS w (F : Nat) (B : Nat) g q p bb cb (.slice none 0 0) r1 l1)), ((fun w w' hg h => h.keep hg.upd)), (hf), ?_⟩
    clear hw1 hF1 hf hu w1 w2
    try go_frame
    refine gm_nil ?_
    intro w9 hw9 hF9
    simp only [List.drop]
    try go_frame
    have H9 := Box.mk hF9; have U9 := Box.mk (U1.out.trans ((Upd.refl [g, p, bb, cb] w1).drew.trans (hw9.upd.mono (T := [g, p, bb, cb]) (fun k hk => List.mem_cons_of_mem _ hk))))
    clear hF9 hw9 H1 U1 FI PW c0 c1 c2 CL
    go_wp2_with fail
    refine (rltold_any g q _ l1 r2 _ H9.out.lg H9.out.vg).mono ?_
    rintro e w2 ⟨rfl, hl, hu⟩
    have H10 := Box.mk (H9.out.own hl hu); have U10 := Box.mk (U9.out.trans (hu.mono (T := [g, p, bb, cb]) (by simp)))
    clear hl hu H9 U9
    by_cases hr : r2 = 0
    · have hrb : (r2 == 0) = true := by simpa using hr
      have hm := HM.out
      rw [if_neg (by simpa using hr)] at hm
      have PZ := Box.mk (rlpwrite_any g q p bb cb (F : Nat) (B : Nat) (.slice none 0 0) r1 (l1.told r2) a7 [0] w2 H10.out (by have := HKK.out; omega) (by simp))
      have e7 : a + 7 = a7 := by have := HA.out; have := HA7.out; omega
      rw [e7] at hm
      generalize r1.pwrite (F : Nat) (B : Nat) (a7 : Nat) [0] = z at PZ hm
      obtain ⟨z1, z2⟩ := z
      dsimp only at PZ hm
      have HM := Box.mk hm
      clear hm hr
      obtain ⟨d0, d1, d2⟩ := H10.out.lg.cells
      go_wp2_with fail
      refine PZ.out.mono ?_
      rintro e w3 ⟨rfl, h3, u3⟩
      have H11 := Box.mk h3; have U11 := Box.mk (U10.out.trans (u3.mono (T := [g, p, bb, cb]) (fun k hk => List.mem_cons_of_mem _ hk)))
      clear h3 u3 H10 U10 PZ d0 d1 d2
      go_wp2_with fail
      refine (rltold_any g q _ _ z2 _ H11.out.lg H11.out.vg).mono ?_
      rintro e w4 ⟨rfl, hl, hu⟩
      have H12 := Box.mk (H11.out.own hl hu); have U12 := Box.mk (U11.out.trans (hu.mono (T := [g, p, bb, cb]) (by simp)))
      clear hl hu H11 U11
      by_cases hz : z2 = 0
      · have hzb : (z2 == 0) = true := by simpa using hz
        have HRE : Box (R.2.2 = 0) := ⟨by rw [HM.out, if_neg (by simpa using hz)]⟩
        have f1 := H12.out.lg.free 1
        obtain ⟨d0, d1, d2⟩ := H12.out.lg.cells
        obtain ⟨i0, hi0, hz0, hsz0, hby0⟩ := info_parts info_rseg
        have d1' := cellA (.cells #[] 87) d1
        have hb0 : Below w4.heap.size w4 ((w4.alloc (.cells #[] 87)).alloc (.cells #[.int .i64 (k : Int), .int .i64 (num : Int)] 87)) := ((Below.refl _ _).alloc (Nat.le_refl _) _).alloc (by simp) _
        have hown0 : ((w4.alloc (.cells #[] 87)).alloc (.cells #[.int .i64 (k : Int), .int .i64 (num : Int)] 87)).ownsRow w4.heap.size 87 2 (.slice (some ⟨w4.heap.size, 0, none⟩) 0 0) 0 [] := own_alloc (World.ownsRow_lit (base := w4.heap.size) (size := 2) (e := 87) w4 #[] 0 (Nat.le_refl _) (by unfold maxLen; omega) rfl) _
        have hnw := two_newR (w4.alloc (.cells #[] 87)) (.int .i64 (k : Int)) (.int .i64 (num : Int)) 87
        rw [World.size_alloc] at hnw
        have rg := H12.out.lg.row
        have hgl := H12.out.lg.lt
        go_wp2_with (at_builtin; refine wpList_append_own _ rfl (.tmp 45) (.tmp 49) 80 rfl w4.heap.size 87 i0 _ 2 16 Tryz.underlying80 hi0 hz0 hsz0 hby0 rfl (by decide) (.slice (some ⟨w4.heap.size, 0, none⟩) 0 0) 0 [] rfl hown0 ⟨w4.heap.size + 1, 0, none⟩ 1 1 [.int .i64 (k : Int), .int .i64 (num : Int)] rfl rfl hnw (two_oneR _ _) (by unfold maxLen; omega) (by omega) (by simp; omega) ?_; intro v' w' hown' hgrow hnil; obtain ⟨g', cap', rfl⟩ := own_form hown' (by omega); have bz := hb0.grown hgrow (by simp; omega) (fun k hk => by simp [Value.ownBlock] at hk; omega); have rg' := (bz.block g hgl).trans rg; have f1' : w'.frozen? ⟨g, 1, none⟩ = false := frozen_of_row _ _ _ _ _ rg'; have e1' : w'.cell? ⟨g, 1, none⟩ = some (.slice none 0 0) := (cell_of_row _ _ _ _ _ _ rg').trans rfl)
        go_ret
        rw [HRE.out]
        exact ⟨rfl, (U12.out.trans ((Upd.of_below (S := [g, p, bb, cb]) bz))).setCell (.inl (by simp)) _⟩
      · have hzb : (z2 == 0) = false := by rw [beq_eq_false_iff_ne]; exact hz
        have HRE : Box (R.2.2 = z2) := ⟨by rw [HM.out, if_pos hz]⟩
        clear hz
        go_wp2_with fail
        go_ret
        rw [HRE.out]
        exact ⟨rfl, U12.out⟩
    · have hrb : (r2 == 0) = false := by rw [beq_eq_false_iff_ne]; exact hr
      have HRE : Box (R.2.2 = r2) := ⟨by rw [HM.out, if_pos hr]⟩
      clear hr
      go_wp2_with fail
      go_ret
      rw [HRE.out]
      exact ⟨rfl, U10.out⟩
  · have hb1 : (e1 == 0) = false := by rw [beq_eq_false_iff_ne]; exact he1
    have HRE : Box (R.2.2 = e1) := ⟨by rw [HM.out, if_pos he1]⟩
    clear he1
    go_enter Tryz.func78, Tryz.ntmps78
    go_wp2_with fail
    refine CL.out.mono ?_
    rintro e w1 ⟨rfl, h1, u1⟩
    have U1 := Box.mk u1; clear h1 u1
    go_wp2_with fail
    go_ret
    rw [HRE.out]
    exact ⟨rfl, U1.out⟩
theorem told_zero (l : LS) : l.told 0 = l := by unfold LS.told; simp
theorem lcleans_l (s : FS) (F B : Int) (l : LS) : ∀ k, (FS.lcleans s F B l k).2.2 = 0 → (FS.lcleans s F B l k).2.1 = l
  | 0, _ => rfl
  | k + 1, h => by
    rw [FS.lcleans] at h ⊢
    by_cases h1 : (FS.lcleans s F B l k).2.2 ≠ 0
    · rw [if_pos h1] at h; exact absurd h h1
    · rw [if_neg h1] at h ⊢
      have hl := lcleans_l s F B l k (Classical.byContradiction h1)
      unfold FS.lclean at h ⊢
      dsimp only at h ⊢
      rw [h, hl, told_zero]
/-- What the document's Format leaves. -/
def RFmt (p bb cb : Nat) (w : World) (x : Int) (e : Ending) (w' : World) : Prop :=
  Upd [p, bb, cb] w w' ∧ ((x ≠ 0 ∧ e = .returned (.tuple #[.pointer none, .int .i64 x])) ∨ (x = 0 ∧ ∃ g, e = .returned (.tuple #[.pointer (some ⟨g, 0, none⟩), .int .i64 0])))
set_option maxHeartbeats 2000000 in
theorem rlformat_any (q p bb cb : Nat) (F B : Nat) (s : FS) (w : World) (hf : Fl 66 w p bb cb s) (hok : s.Ok) (hp : RPa w q p (F : Nat) (B : Nat)) (hi : In s.n.length (F : Nat) (B : Nat)) (hq : q ∉ [p, bb, cb]) :
    Calls Tryz.prog 49 #[.pointer (some ⟨q, 0, none⟩)] w (RFmt p bb cb w (s.lformat F B).2.2) := by
  have hB : B ≤ 256 := by have h1 := hi.hi; have h2 := hi.lo; have h3 := hi.few; omega
  have hl0 := hf.lt; have hl1 := hp.lt
  obtain ⟨g, hg⟩ : ∃ g, g = w.heap.size := ⟨_, rfl⟩
  have u0 : Upd [p, bb, cb] w (w.alloc (.cells #[.pointer (some ⟨q, 0, none⟩), .slice none 0 0, .bool false] 82)) := (Upd.refl _ _).alloc _
  have L0 := Box.mk (show RLgS (w.alloc (.cells #[.pointer (some ⟨q, 0, none⟩), .slice none 0 0, .bool false] 82)) (F : Nat) (B : Nat) g q p bb cb (.slice none 0 0) s ⟨[], false⟩ from
    ⟨⟨by simp only [List.mem_cons, List.not_mem_nil, or_false, not_or] at hq ⊢; omega, by simp only [List.mem_cons, List.not_mem_nil, or_false, not_or]; omega, fun k hk => by simp [Value.ownBlock] at hk⟩,
      hf.upd ((Upd.refl [] _).alloc _) (by simp) (by simp) (by simp), hok, hp.upd ((Upd.refl [] _).alloc _) (by simp), hi, ⟨by rw [hg]; exact heap_alloc_new _ _, World.ownsRow_nil _ _ _ _⟩⟩)
  have U0 := Box.mk u0
  have HG := Box.mk (show w.heap.size ≤ g by omega)
  have BL := Box.mk (fun s l v w (h : RLgS w (F : Nat) (B : Nat) g q p bb cb v s l) => rlblocks_any g q p (F : Nat) (B : Nat) v l w h.lg h.pa)
  obtain ⟨R, hR⟩ : ∃ R, R = s.lformat F B := ⟨_, rfl⟩
  rw [← hR]
  unfold FS.lformat at hR
  have HBx := Box.mk hB
  have EXT : Box (∀ i, i ∈ [g, p, bb, cb] → i ∈ [p, bb, cb] ∨ w.heap.size ≤ i) := ⟨fun i hi => by
    rcases List.mem_cons.1 hi with rfl | hi
    · exact .inr (by omega)
    · exact .inl hi⟩
  have hgw : w.heap.size = g := hg.symm
  clear hf hok hp hi hq u0 hl0 hl1 hg
  by_cases h4 : B < 4
  · have h4I : decide ((B : Int) < 4) = true := by rw [decide_eq_true_eq]; omega
    rw [if_pos h4] at hR
    have HR := Box.mk hR
    clear hR h4 hB
    go_enter Tryz.func49, Tryz.ntmps49
    go_wp2_with fail
    refine (BL.out _ _ _ _ L0.out).mono ?_
    rintro e w1 ⟨rfl, rfl⟩
    go_wp2_with fail
    go_ret2
    rw [HR.out]
    exact ⟨U0.out, .inl ⟨by show (140 : Int) ≠ 0; decide, rfl⟩⟩
  · have h4I : decide ((B : Int) < 4) = false := by rw [decide_eq_false_iff_not]; omega
    rw [if_neg h4] at hR
    have HR := Box.mk hR
    clear hR h4 hB
    go_enter Tryz.func49, Tryz.ntmps49
    go_wp2_with fail
    refine (BL.out _ _ _ _ L0.out).mono ?_
    rintro e w1 ⟨rfl, rfl⟩
    go_wp2_with fail
    go_loopw [5] (fun i wr => ∃ j : Nat, j ≤ B ∧ i = .int .i64 (j : Nat) ∧ (FS.lcleans s F B ⟨[], false⟩ j).2.2 = 0 ∧ RLgS wr (F : Nat) (B : Nat) g q p bb cb (.slice none 0 0) (FS.lcleans s F B ⟨[], false⟩ j).1 (FS.lcleans s F B ⟨[], false⟩ j).2.1 ∧ Upd [p, bb, cb] w wr) (fun i _ => B - (intOf i).toNat)
    case atStart => exact ⟨0, by omega, rfl, rfl, L0.out, U0.out⟩
    case round =>
      clear L0 U0
      obtain ⟨j, hj, rfl, he0, hs, hu⟩ := hrel
      have HS := Box.mk hs; have HU := Box.mk hu; have HE := Box.mk he0
      clear hs hu he0
      by_cases hlt : j < B
      · have hltI : (j : Int) < (B : Int) := by omega
        have CL := Box.mk (rlclean_any g q p bb cb (F : Nat) (B : Nat) (.slice none 0 0) (FS.lcleans s F B ⟨[], false⟩ j).1 (FS.lcleans s F B ⟨[], false⟩ j).2.1 j wr HS.out (by have := HBx.out; omega))
        have HN : Box (FS.lcleans s F B ⟨[], false⟩ (j + 1) = (FS.lcleans s F B ⟨[], false⟩ j).1.lclean F B (FS.lcleans s F B ⟨[], false⟩ j).2.1 j) := ⟨by rw [FS.lcleans, if_neg (by rw [HE.out]; decide)]⟩
        generalize (FS.lcleans s F B ⟨[], false⟩ j).1.lclean F B (FS.lcleans s F B ⟨[], false⟩ j).2.1 j = c at CL HN
        obtain ⟨c1, c2, c3⟩ := c
        dsimp only at CL
        by_cases hc : c3 = 0
        · have hcb : (c3 != 0) = false := by simpa using hc
          have HC := Box.mk hc
          have HL := Box.mk hlt
          have hB256 : (B : Int) ≤ 256 := by have := HBx.out; omega
          clear hc hlt
          go_wp2_with fail
          refine (BL.out _ _ _ _ HS.out).mono ?_
          rintro e w1 ⟨rfl, rfl⟩
          go_wp2_with fail
          refine CL.out.mono ?_
          rintro e w1 ⟨rfl, hs, hu⟩
          have HS1 := Box.mk hs; have HU1 := Box.mk (HU.out.ext hu EXT.out)
          clear hs hu HS HU CL
          go_wp2_with fail
          exact ⟨⟨j + 1, HL.out, by go_num, by rw [HN.out]; exact HC.out, by rw [HN.out]; exact HS1.out, HU1.out⟩, by have := HL.out; simp [intOf]; omega⟩
        · have hcb : (c3 != 0) = true := by rw [bne_iff_ne]; exact hc
          have HR1 : Box (R = (c1, c2, c3)) := ⟨by
            have e : FS.lcleans s F B ⟨[], false⟩ B = (c1, c2, c3) := by
              have := lcleans_stay s F B ⟨[], false⟩ (j + 1) (by rw [HN.out]; exact hc) (B - (j + 1))
              rw [show j + 1 + (B - (j + 1)) = B by omega] at this
              rw [this]; exact HN.out
            rw [HR.out]
            show (if (FS.lcleans s F B ⟨[], false⟩ B).2.2 ≠ 0 then _ else _) = _
            rw [e, if_pos hc]⟩
          have HC := Box.mk hc
          clear hc hlt
          go_wp2_with fail
          refine (BL.out _ _ _ _ HS.out).mono ?_
          rintro e w1 ⟨rfl, rfl⟩
          go_wp2_with fail
          refine CL.out.mono ?_
          rintro e w1 ⟨rfl, hs, hu⟩
          have HU1 := Box.mk (HU.out.ext hu EXT.out)
          clear hs hu HS HU CL
          go_wp2_with fail
          go_ret2
          rw [HR1.out]
          exact ⟨HU1.out, .inl ⟨HC.out, rfl⟩⟩
      · have hltI : ¬ (j : Int) < (B : Int) := by omega
        obtain rfl : j = B := by omega
        have hll := lcleans_l s F j ⟨[], false⟩ j HE.out
        have HS2 := HS.out
        rw [hll] at HS2
        have MK := Box.mk (rlmakes_any g q p bb cb F j (FS.lcleans s F j ⟨[], false⟩ j).1 0 1 wr HS2 (by omega) (by omega))
        have HR1 : Box (R = (FS.lcleans s F j ⟨[], false⟩ j).1.lmakes F j ⟨[], false⟩ 0 1) := ⟨by
          rw [HR.out]
          show (if (FS.lcleans s F j ⟨[], false⟩ j).2.2 ≠ 0 then _ else _) = _
          rw [if_neg (by rw [HE.out]; decide), hll]⟩
        generalize (FS.lcleans s F j ⟨[], false⟩ j).1.lmakes F j ⟨[], false⟩ 0 1 = m at MK HR1
        obtain ⟨m1, m2, m3⟩ := m
        dsimp only at MK
        obtain ⟨rfl⟩ := HR1
        clear hlt hll HS2
        by_cases hm : m3 = 0
        · have hmb : (m3 != 0) = false := by simpa using hm
          have HM := Box.mk hm
          clear hm
          go_wp2_with fail
          refine (BL.out _ _ _ _ HS.out).mono ?_
          rintro e w1 ⟨rfl, rfl⟩
          go_wp2_with fail
          refine MK.out.mono ?_
          rintro e w1 ⟨rfl, hu⟩
          have HU1 := Box.mk (HU.out.ext hu EXT.out)
          clear hu HS HU MK
          go_wp2_with fail
          go_ret2
          exact ⟨HU1.out, .inr ⟨HM.out, g, rfl⟩⟩
        · have hmb : (m3 != 0) = true := by rw [bne_iff_ne]; exact hm
          have HM := Box.mk hm
          clear hm
          go_wp2_with fail
          refine (BL.out _ _ _ _ HS.out).mono ?_
          rintro e w1 ⟨rfl, rfl⟩
          go_wp2_with fail
          refine MK.out.mono ?_
          rintro e w1 ⟨rfl, hu⟩
          have HU1 := Box.mk (HU.out.ext hu EXT.out)
          clear hu HS HU MK
          go_wp2_with fail
          go_ret2
          exact ⟨HU1.out, .inl ⟨HM.out, rfl⟩⟩
end Go.Proofs.YtjednaendedpdaaGreat
namespace Go.Proofs.YtjednaendedpdaaGreat
set_option maxRecDepth 100000
set_option linter.unusedVariables false

/-- The document's pages of a record. -/
def pgD (r : List UInt8) (i : Nat) : List UInt8 := if i = 0 then 1 :: (leList 2 r.length ++ 0 :: r.take 60) else 2 :: (r.drop (60 + 63 * (i - 1))).take 63
theorem bodyD_len (S : List UInt8) (p : Nat) : ∀ m, 1 ≤ m → 64 * (p + m) ≤ S.length → (bodyL S p m).length = 60 + 63 * (m - 1)
  | 0, h, _ => by omega
  | 1, _, h => by rw [bodyL, List.length_take, List.length_drop]; omega
  | m + 2, _, h => by
    show (bodyL S p (m + 1) ++ _).length = _
    rw [List.length_append, bodyD_len S p (m + 1) (by omega) (by omega), List.length_take, List.length_drop]; omega
/-- The middle of a body. -/
theorem body_mid (S : List UInt8) (p : Nat) : ∀ (m i : Nat), 1 ≤ i → i < m → 64 * (p + m) ≤ S.length → ((bodyL S p m).drop (60 + 63 * (i - 1))).take 63 = (S.drop (64 * (p + i) + 1)).take 63
  | 0, i, _, h, _ => by omega
  | 1, i, h1, h, _ => by omega
  | m + 2, i, h1, h, hl => by
    show ((bodyL S p (m + 1) ++ (S.drop (64 * (p + (m + 1)) + 1)).take 63).drop _).take 63 = _
    have hb := bodyD_len S p (m + 1) (by omega) (by omega)
    rcases Nat.lt_or_ge i (m + 1) with hi | hi
    · rw [← body_mid S p (m + 1) i h1 hi (by omega)]
      rw [List.drop_append_of_le_length (by rw [hb]; omega), List.take_append_of_le_length (by rw [List.length_drop, hb]; omega)]
    · obtain rfl : i = m + 1 := by omega
      rw [List.drop_append, List.drop_of_length_le (by rw [hb]; omega), List.nil_append, hb, Nat.sub_self, List.drop_zero, List.take_take]; rfl
theorem body_head (S : List UInt8) (p : Nat) : ∀ (m : Nat), 1 ≤ m → 64 * (p + m) ≤ S.length → (bodyL S p m).take 60 = (S.drop (64 * p + 4)).take 60
  | 0, h, _ => by omega
  | 1, _, _ => by rw [bodyL, List.take_take]; rfl
  | m + 2, _, hl => by
    show (bodyL S p (m + 1) ++ _).take 60 = _
    have hb := bodyD_len S p (m + 1) (by omega) (by omega)
    rw [List.take_append_of_le_length (by rw [hb]; omega)]
    exact body_head S p (m + 1) (by omega) (by omega)
theorem drop_cons_at (S : List UInt8) (k : Nat) (h : k < S.length) : S.drop k = S.getD k 0 :: S.drop (k + 1) := by
  rw [List.drop_eq_getElem_cons h, List.getD_eq_getElem?_getD, List.getElem?_eq_getElem h]; rfl
theorem take_self {x T : List UInt8} {k : Nat} (h : x = T.take k) : T.take x.length = x := by
  subst h
  rw [List.length_take]
  rcases Nat.le_total k T.length with hk | hk
  · rw [Nat.min_eq_left hk]
  · rw [Nat.min_eq_right hk, List.take_of_length_le (Nat.le_refl _), List.take_of_length_le hk]
theorem page_ge {S : List UInt8} {p m n i : Nat} (h1 : 1 ≤ i) (hi : i < m) (hl : 64 * (p + m) ≤ S.length) : (S.drop (64 * (p + i))).take (pgD ((bodyL S p m).take n) i).length = pgD ((bodyL S p m).take n) i ↔ goesL S p (i - 1) = true := by
  unfold pgD
  rw [if_neg (by omega), drop_cons_at S _ (by omega), List.length_cons, List.take_succ_cons, List.cons.injEq]
  unfold goesL
  rw [show p + 1 + (i - 1) = p + i by omega, beq_iff_eq]
  have e : ((((bodyL S p m).take n).drop (60 + 63 * (i - 1))).take 63) = (S.drop (64 * (p + i) + 1)).take (min (n - (60 + 63 * (i - 1))) 63) := by
    rw [List.drop_take, List.take_take, Nat.min_comm 63, ← List.take_take (l := List.drop _ _) (i := n - (60 + 63 * (i - 1))) (j := 63), body_mid S p m i h1 hi hl, List.take_take]
  exact ⟨fun h => h.1, fun h => ⟨h, take_self e⟩⟩
theorem le_two (a b : UInt8) : leList 2 (leNat [a, b]) = [a, b] := by
  have h := leNat_leList 2 (leNat [a, b])
  have hl : leNat [a, b] < 256 ^ 2 := leNat_lt [a, b]
  rw [Nat.mod_eq_of_lt hl] at h
  exact leNat_inj _ _ (by rw [leList_length]; rfl) h
theorem page_zero {S : List UInt8} {p m : Nat} (hm : 1 ≤ m) (hl : 64 * (p + m) ≤ S.length) (hn : lenL S p ≤ (bodyL S p m).length) : (S.drop (64 * p)).take (pgD ((bodyL S p m).take (lenL S p)) 0).length = pgD ((bodyL S p m).take (lenL S p)) 0 ↔ hdrL S p = true := by
  have hr : ((bodyL S p m).take (lenL S p)).length = lenL S p := by rw [List.length_take]; omega
  unfold pgD
  rw [if_pos rfl, hr]
  have e4 : S.drop (64 * p) = S.getD (64 * p) 0 :: S.getD (64 * p + 1) 0 :: S.getD (64 * p + 2) 0 :: S.getD (64 * p + 3) 0 :: S.drop (64 * p + 4) := by
    rw [drop_cons_at S _ (by omega), drop_cons_at S _ (by omega), drop_cons_at S _ (by omega), drop_cons_at S _ (by omega)]
  have e2 : leList 2 (lenL S p) = [S.getD (64 * p + 1) 0, S.getD (64 * p + 2) 0] := by
    unfold lenL
    have : (S.drop (64 * p + 1)).take 2 = [S.getD (64 * p + 1) 0, S.getD (64 * p + 2) 0] := by
      rw [drop_cons_at S _ (by omega), drop_cons_at S _ (by omega)]; rfl
    rw [this, le_two]
  rw [e2, e4]
  have eb : ((bodyL S p m).take (lenL S p)).take 60 = (S.drop (64 * p + 4)).take (min (lenL S p) 60) := by
    rw [List.take_take, Nat.min_comm 60, ← List.take_take (i := lenL S p) (j := 60), body_head S p m hm hl, List.take_take]
  unfold hdrL
  rw [Bool.and_eq_true, beq_iff_eq, beq_iff_eq]
  simp only [List.cons_append, List.nil_append, List.length_cons, List.take_succ_cons, List.cons.injEq]
  exact ⟨fun h => ⟨h.1, h.2.2.2.1⟩, fun h => ⟨h.1, trivial, trivial, h.2, take_self eb⟩⟩
/-- Does a page of the document's lie there? -/
def liesD (S : List UInt8) (p m : Nat) (r : List UInt8) (i : Nat) : Prop := (S.drop (64 * (p + i))).take (pgD r i).length = pgD r i
theorem stand_no {S : List UInt8} {p m n i : Nat} (hn : n = lenL S p) (hm : m = pgs n) (h1 : 1 ≤ m) (h8 : p + m ≤ 8) (hS : S.length = 512) (hb : n ≤ (bodyL S p m).length) (hi : i < m)
    (hno : ¬ (S.drop (64 * (p + i))).take (pgD ((bodyL S p m).take n) i).length = pgD ((bodyL S p m).take n) i) : recL S p = ([], 0) := by
  subst hn
  rcases Nat.eq_zero_or_pos i with rfl | hpos
  · rw [Nat.add_zero, page_zero h1 (by omega) hb] at hno
    unfold recL
    rw [if_pos (by simpa using hno)]
  · rw [page_ge hpos hi (by omega)] at hno
    unfold recL
    split
    · rfl
    · rw [← hm, if_neg (by omega), if_pos]
      rcases Nat.lt_or_ge (runB (goesL S p) (m - 1)) (m - 1) with h | h
      · exact h
      · exact absurd (runB_true (m - 1) (goesL S p) (i - 1) (by omega)) hno
theorem stand_yes {S : List UInt8} {p m n : Nat} (hn : n = lenL S p) (hm : m = pgs n) (h1 : 1 ≤ m) (h8 : p + m ≤ 8) (hS : S.length = 512) (hb : n ≤ (bodyL S p m).length)
    (hall : ∀ i, i < m → (S.drop (64 * (p + i))).take (pgD ((bodyL S p m).take n) i).length = pgD ((bodyL S p m).take n) i) : recL S p = ((bodyL S p m).take n, m) := by
  subst hn
  have h0 := hall 0 (by omega)
  rw [Nat.add_zero, page_zero h1 (by omega) hb] at h0
  unfold recL
  rw [if_neg (by rw [h0]; decide), ← hm, if_neg (by omega), if_neg]
  rw [runB_spec (m - 1) (goesL S p) (m - 1) (Nat.le_refl _) (fun j hj => by
    have := hall (j + 1) (by omega)
    rw [page_ge (by omega) (by omega) (by omega)] at this
    exact this) (.inl rfl)]
  omega
theorem stand_none {S : List UInt8} {p m n : Nat} (hn : n = lenL S p) (hm : m = pgs n) (h : m = 0 ∨ 8 < p + m) : recL S p = ([], 0) := by
  subst hn
  unfold recL
  split
  · rfl
  · rw [if_pos (by rw [← hm]; exact h)]
end Go.Proofs.YtjednaendedpdaaGreat
