/- The document's part of a flash: New. The document's flash: one is made. The slots' laws: an image of whole blocks, the part of a flash but its first block. Arguments that are structs: read field by field; what came in reads behind the call as before it. Arguments that are scripts: bytes and a slice of calls. The argument of the laws of part: how many blocks, a region, a script. -/
import Derived.Test.YtopiopomioglfaaM13
import Derived.Test.YtopiopomioglfaaM12
import Derived.Test.YtopiopomioglfaaM01
import Derived.Deep.Slices
import Derived.Deep.Fields
import Derived.ChangeSame
import Derived.ProofKit
import Derived.OpenShut
import Derived.ShutString
import Derived.ChangeOld
import Derived.Carry
import Derived.Test.YtopiopomioglfaaM04
namespace Go.Proofs.Ytopiopomioglfaa
set_option maxRecDepth 100000
set_option linter.unusedVariables false
open Go Go.RowKit

set_option maxHeartbeats 2000000 in
theorem rpnew_yes (p bb cb : Nat) (F B : Int) (s : FS) (w : World) (hf : Fl 57 w p bb cb s) (hi : In s.n.length F B) :
    Calls Try.prog 30 #[.pointer (some ⟨p, 0, none⟩), .agg #[.int .i64 F, .int .i64 B]] w fun e w' => ∃ q, e = .returned (.tuple #[.pointer (some ⟨q, 0, none⟩), .int .i64 0]) ∧ RPa w' q p F B ∧ w.heap.size ≤ q ∧ Below w.heap.size w w' := by
  have h1 : decide (F < 0) = false := by rw [decide_eq_false_iff_not]; have := hi.lo; omega
  have h2 : decide (B < 1) = false := by rw [decide_eq_false_iff_not]; have := hi.some; omega
  obtain ⟨n, hn⟩ : ∃ n, n = s.n.length := ⟨_, rfl⟩
  have h3 : decide ((n : Int) < F) = false := by rw [decide_eq_false_iff_not]; have := hi.hi; have := hi.some; omega
  have hw : IntKind.i64.wrap ((n : Int) - F) = (n : Int) - F := by rw [IntKind.wrap_i64]; have := hi.hi; have := hi.lo; have := hi.few; have := hi.some; omega
  have h4 : decide ((n : Int) - F < B) = false := by rw [decide_eq_false_iff_not]; have := hi.hi; omega
  obtain ⟨w1, hw1⟩ : ∃ w1, w1 = w.alloc (.cells #[.int .i64 F, .int .i64 B] 67) := ⟨_, rfl⟩
  have hb1 : Below w.heap.size w w1 := by rw [hw1]; exact (Below.refl _ _).alloc (Nat.le_refl _) _
  have r1 : w1.heap[w.heap.size]? = some (.cells #[.int .i64 F, .int .i64 B] 67 (0, 0)) := by rw [hw1]; exact heap_alloc_new _ _
  have c0 : w1.cell? ⟨w.heap.size, 0, none⟩ = some (.int .i64 F) := (cell_of_row _ _ _ _ _ _ r1).trans rfl
  have c1 : w1.cell? ⟨w.heap.size, 1, none⟩ = some (.int .i64 B) := (cell_of_row _ _ _ _ _ _ r1).trans rfl
  obtain ⟨bcap, ccap, hb, hc, d0, d1, d2, d3, d4, d5, d6⟩ := (hf.upd (Upd.of_below hb1) (S := []) (by simp) (by simp) (by simp)).cells
  rw [← hn] at d1
  have B1 := Box.mk hb1
  clear hn hf hi r1 hb1 d0 d2 d3 d4 d5 d6 hb hc
  go_enter Try.func30, Try.ntmps30
  go_upto_region 1 with (fail)
  rw [← hw1]
  clear hw1
  go_wp2_with fail
  go_ret2
  exact ⟨w1.heap.size, rfl, ⟨heap_alloc_new _ _⟩, B1.out.size, B1.out.alloc B1.out.size _⟩
set_option maxHeartbeats 2000000 in
theorem rpnew_no (p bb cb : Nat) (F B : Int) (s : FS) (w : World) (hf : Fl 57 w p bb cb s) (hok : s.Ok) (hi : ¬ In s.n.length F B) (bF : -9223372036854775808 ≤ F ∧ F ≤ 9223372036854775807) :
    Calls Try.prog 30 #[.pointer (some ⟨p, 0, none⟩), .agg #[.int .i64 F, .int .i64 B]] w fun e w' => e = .returned (.tuple #[.pointer none, .int .i64 120]) ∧ Below w.heap.size w w' := by
  have hfew := hok.few
  obtain ⟨n, hn⟩ : ∃ n, n = s.n.length := ⟨_, rfl⟩
  have hi' : ¬ (0 ≤ F ∧ 1 ≤ B ∧ F + B ≤ (n : Int)) := fun ⟨a, b, c⟩ => hi ⟨a, b, by rw [← hn]; exact c, hfew.2⟩
  rw [← hn] at hfew
  obtain ⟨w1, hw1⟩ : ∃ w1, w1 = w.alloc (.cells #[.int .i64 F, .int .i64 B] 67) := ⟨_, rfl⟩
  have hb1 : Below w.heap.size w w1 := by rw [hw1]; exact (Below.refl _ _).alloc (Nat.le_refl _) _
  have r1 : w1.heap[w.heap.size]? = some (.cells #[.int .i64 F, .int .i64 B] 67 (0, 0)) := by rw [hw1]; exact heap_alloc_new _ _
  have c0 : w1.cell? ⟨w.heap.size, 0, none⟩ = some (.int .i64 F) := (cell_of_row _ _ _ _ _ _ r1).trans rfl
  have c1 : w1.cell? ⟨w.heap.size, 1, none⟩ = some (.int .i64 B) := (cell_of_row _ _ _ _ _ _ r1).trans rfl
  obtain ⟨bcap, ccap, hb, hc, d0, d1, d2, d3, d4, d5, d6⟩ := (hf.upd (Upd.of_below hb1) (S := []) (by simp) (by simp) (by simp)).cells
  rw [← hn] at d1
  have B1 := Box.mk hb1
  clear hn hf hi r1 hb1 hok d0 d2 d3 d4 d5 d6 hb hc
  by_cases g1 : F < 0
  · have h1 : decide (F < 0) = true := by simpa using g1
    clear hi' g1
    go_enter Try.func30, Try.ntmps30
    go_upto_region 1 with (fail)
    rw [← hw1]
    clear hw1
    go_wp2_with fail
    go_ret2
    exact ⟨rfl, B1.out⟩
  · have h1 : decide (F < 0) = false := by simpa using g1
    by_cases g2 : B < 1
    · have h2 : decide (B < 1) = true := by simpa using g2
      clear hi' g1 g2
      go_enter Try.func30, Try.ntmps30
      go_upto_region 1 with (fail)
      rw [← hw1]
      clear hw1
      go_wp2_with fail
      go_ret2
      exact ⟨rfl, B1.out⟩
    · have h2 : decide (B < 1) = false := by simpa using g2
      by_cases g3 : (n : Int) < F
      · have h3 : decide ((n : Int) < F) = true := by simpa using g3
        clear hi' g1 g2 g3
        go_enter Try.func30, Try.ntmps30
        go_upto_region 1 with (fail)
        rw [← hw1]
        clear hw1
        go_wp2_with fail
        go_ret2
        exact ⟨rfl, B1.out⟩
      · have h3 : decide ((n : Int) < F) = false := by simpa using g3
        have hw : IntKind.i64.wrap ((n : Int) - F) = (n : Int) - F := by rw [IntKind.wrap_i64]; omega
        have h4 : decide ((n : Int) - F < B) = true := by rw [decide_eq_true_eq]; omega
        clear hi' g1 g2 g3
        go_enter Try.func30, Try.ntmps30
        go_upto_region 1 with (fail)
        rw [← hw1]
        clear hw1
        go_wp2_with fail
        go_ret2
        exact ⟨rfl, B1.out⟩
end Go.Proofs.Ytopiopomioglfaa
namespace Go.Proofs.Ytopiopomioglfaa
set_option maxRecDepth 100000
set_option linter.unusedVariables false
open Go Go.RowKit

set_option maxHeartbeats 1000000 in
theorem ropen_no (s : ByteArray) (w : World) (hs : sizeB s.size = false) :
    Calls Try.prog 29 #[.string s] w fun e w' => e = .returned (.tuple #[.pointer none, .int .i64 110]) ∧ w = w' := by
  have hs' : ¬ (1 ≤ s.size / 512 ∧ s.size / 512 ≤ 256 ∧ s.size % 512 = 0) := by unfold sizeB at hs; exact of_decide_eq_false hs
  have HS := Box.mk hs'; clear hs hs'
  by_cases h0 : s.size = 0
  · have h0' : ((s.size : Int) == 0) = true := by rw [beq_iff_eq]; omega
    clear h0
    go_enter Try.func29, Try.ntmps29
    go_wp2
    go_ret2
    exact ⟨rfl, rfl⟩
  · have h0' : ((s.size : Int) == 0) = false := by rw [beq_eq_false_iff_ne]; omega
    by_cases h1 : s.size % 512 = 0
    · have h1' : ((s.size : Int) % 512 != 0) = false := by rw [bne_eq_false_iff_eq]; omega
      have h2 : (131072 : Int) < (s.size : Int) := by have := HS.out; omega
      clear h0 h1
      go_enter Try.func29, Try.ntmps29
      go_wp2
      go_ret2
      exact ⟨rfl, rfl⟩
    · have h1' : ((s.size : Int) % 512 != 0) = true := by rw [bne_iff_ne]; omega
      clear h0 h1
      go_enter Try.func29, Try.ntmps29
      go_wp2
      go_ret2
      exact ⟨rfl, rfl⟩

set_option maxHeartbeats 1000000 in
theorem ropen_yes (s : ByteArray) (w : World) (hs : sizeB s.size = true) :
    Calls Try.prog 29 #[.string s] w (Made 57 w s.data.toList) := by
  have hs' : 1 ≤ s.size / 512 ∧ s.size / 512 ≤ 256 ∧ s.size % 512 = 0 := by unfold sizeB at hs; exact of_decide_eq_true hs
  have hcv := fun w => Lib.run_convert_string_bytes (P := Try.prog) w 9 54 5 s Try.underlying9 Try.underlying54 Try.underlying5
  have hmk := fun w => make_ints (s.size / 512) ((s.size : Int) / 512) (by omega) (by omega) w
  have h0' : ((s.size : Int) == 0) = false := by rw [beq_eq_false_iff_ne]; omega
  have h1' : ((s.size : Int) % 512 != 0) = false := by rw [bne_eq_false_iff_eq]; omega
  have h2 : ¬ (131072 : Int) < (s.size : Int) := by omega
  have hsz := Lib.bytesWorld_size w 5 s
  have HS := Box.mk hs'; clear hs hs'
  go_enter Try.func29, Try.ntmps29
  go_wp2
  go_ret2
  have hlen : s.data.toList.length = s.size := by simp
  obtain ⟨sp, fr, hb, hfr⟩ := bytesWorld_row w s
  refine ⟨w.heap.size + 1 + 1, w.heap.size, w.heap.size + 1, rfl, ⟨⟨grownCap w s.size 0 5, s.size / 512, by show s.data.toList.length ≤ _; rw [hlen]; exact grownCap_ge w _ _ _, by simp [FS.new], ?_⟩, ⟨sp, fr, ?_, hfr⟩, ⟨[], ?_⟩, by omega, by omega, by omega⟩, by omega, by omega, by omega, ?_⟩
  · rw [← hsz, row_new]; simp [FS.new]
  · rw [heap_alloc_old _ _ (by simp [hsz]; omega), heap_alloc_old _ _ (by rw [hsz]; omega)]; exact hb
  · rw [← hsz, row_old]; simp [FS.new, nval]
  · exact ((bytesWorld_below w s).alloc (by rw [hsz]; omega) _).alloc (by simp [hsz]; omega) _

theorem fill_step (m n : Nat) (h : m < n) : (List.replicate m (bval 255) ++ List.replicate (n - m) (Value.int .u8 0)).set m (.int .u8 255) = List.replicate (m + 1) (bval 255) ++ List.replicate (n - (m + 1)) (Value.int .u8 0) := by
  rw [List.set_append_right _ _ (by simp), List.length_replicate, Nat.sub_self, show n - m = (n - (m + 1)) + 1 from by omega, List.replicate_succ, List.set_cons_zero, List.replicate_succ' (n := m), List.append_assoc]
  rfl
end Go.Proofs.Ytopiopomioglfaa
namespace Go.Proofs.Ytopiopomioglfaa
set_option maxRecDepth 100000
set_option linter.unusedVariables false
open Go Go.RowKit

theorem zeros_at (m g : Nat) (W : World) (h : W.heap[g]? = some (.cells (Array.replicate m (.int .u8 0)) 5 (0, 0))) : (convert 54 9 (.slice (some ⟨g, 0, none⟩) m m)).run Try.prog W = .ok (.string ⟨(List.replicate m 0).toArray⟩) W :=
  run_bytes_at Try.prog W g 0 m (List.replicate m 0) 54 9 5 m (by simp) Try.underlying54 Try.underlying5 Try.underlying9 (fun j u hu => by
    rw [List.getElem?_replicate] at hu
    split at hu
    · rename_i hj
      cases hu
      rw [cell_of_row _ _ _ _ _ _ h, Array.getElem?_replicate, if_pos (by omega)]; rfl
    · cases hu)
/-- The image of whole blocks. -/
def blkS (s : ByteArray) : List UInt8 := s.data.toList.take 3072 ++ List.replicate (512 - (min s.size 3072) % 512) 0
theorem blkS_len (s : ByteArray) : (blkS s).length % 512 = 0 ∧ 512 ≤ (blkS s).length ∧ (blkS s).length ≤ 3584 := by
  have h : s.data.toList.length = s.size := by simp
  unfold blkS
  rw [List.length_append, List.length_take, List.length_replicate, h]
  omega
set_option maxHeartbeats 1000000 in
theorem blocks_of (s : ByteArray) (hs : s.size ≤ 9223372036854775807) (w : World) : Calls Try.prog 27 #[.string s] w fun e w' => e = .returned (.string ⟨(blkS s).toArray⟩) ∧ Below w.heap.size w w' := by
  obtain ⟨m, hm⟩ : ∃ m, m = min s.size 3072 := ⟨_, rfl⟩
  obtain ⟨t, ht⟩ : ∃ t : ByteArray, t = s.extract 0 m := ⟨_, rfl⟩
  have htl : t.data.toList = s.data.toList.take 3072 := by
    rw [ht, ByteArray.data_extract, Array.toList_extract, List.extract_eq_take_drop, List.drop_zero, Nat.sub_zero, hm]
    have h : s.data.toList.length = s.size := by simp
    by_cases hc : s.size ≤ 3072
    · rw [Nat.min_eq_left hc, List.take_of_length_le (by omega), List.take_of_length_le (by omega)]
    · rw [Nat.min_eq_right (by omega)]
  have hts : t.size = m := by rw [ht, ByteArray.size_extract]; omega
  obtain ⟨z, hz⟩ : ∃ z, z = 512 - m % 512 := ⟨_, rfl⟩
  have hmk := fun w => make_bytes z z rfl (by omega) w
  have hcv := fun w => zeros_str z w
  have hw1 : IntKind.i64.wrap (512 - (m : Int) % 512) = (z : Int) := by rw [IntKind.wrap_i64]; omega
  have HX : Box (t ++ ⟨(List.replicate z 0).toArray⟩ = ⟨(blkS s).toArray⟩) := ⟨by
    unfold blkS
    rw [← hm, ← htl, ← hz]
    apply ByteArray.ext
    rw [ByteArray.data_append]
    apply Array.toList_inj.1
    simp⟩
  have hmI : (m : Int) ≤ (s.size : Int) := by omega
  have hm2 : (m : Int) ≤ 3072 := by omega
  have HT := Box.mk ht; have HTS := Box.mk hts; have HM := Box.mk hm
  have hz5 : z ≤ 512 := by omega
  clear htl hz hm ht hts
  go_enter Try.func27, Try.ntmps27
  go_upto_region 1 with (fail)
  go_cut [0] (fun v wx => v = .string t ∧ w = wx)
  case first =>
    by_cases hc : (s.size : Int) ≤ 3072
    · have he : m = s.size := by have := HM.out; omega
      subst he
      go_wp2_with fail
      go_meet
      exact ⟨by rw [HT.out]; first | rfl | simp, rfl⟩
    · have he : m = 3072 := by have := HM.out; omega
      subst he
      go_wp2_with fail
      go_meet
      exact ⟨by rw [HT.out], rfl⟩
  case rest =>
    obtain ⟨rfl, rfl⟩ := hcut
    have hts := HTS.out
    clear HT HTS HM
    subst hts
    have hm3 : t.size ≤ 3072 := by omega
    go_wp2_with fail
    go_ret
    exact ⟨by rw [← HX.out]; rfl, (Below.refl _ _).alloc (Nat.le_refl _) _⟩

theorem over_any (p bb cb : Nat) (s : FS) (w : World) (hf : Fl 76 w p bb cb s) (hok : s.Ok) (h2 : 2 ≤ s.n.length) :
    Calls Try.prog 31 #[.pointer (some ⟨p, 0, none⟩)] w fun e w' => ∃ q, e = .returned (.pointer (some ⟨q, 0, none⟩)) ∧ Pa w' q p 1 ((s.n.length : Int) - 1) ∧ w.heap.size ≤ q ∧ Below w.heap.size w w' := by
  have hfew := hok.few
  have BL := Box.mk (blocks_any p bb cb s w hf)
  have PN := Box.mk (pnew_yes p bb cb 1 ((s.n.length : Int) - 1) s w hf ⟨by omega, by omega, by omega, by omega⟩)
  have hw1 : IntKind.i64.wrap ((s.n.length : Int) - 1) = (s.n.length : Int) - 1 := by rw [IntKind.wrap_i64]; omega
  clear hf hok hfew h2
  generalize (s.n.length : Int) = n at BL PN hw1 ⊢
  go_enter Try.func31, Try.ntmps31
  go_wp2_with fail
  refine BL.out.mono ?_
  rintro e w1 ⟨rfl, rfl⟩
  go_wp2_with fail
  refine PN.out.mono ?_
  rintro e w2 ⟨q, rfl, hp, hq, hb⟩
  have HP := Box.mk hp; have HB := Box.mk hb; have HQ := Box.mk hq; clear hp hb hq
  go_wp2_with fail
  go_ret
  exact ⟨q, rfl, HP.out, HQ.out, HB.out⟩
end Go.Proofs.Ytopiopomioglfaa
namespace Go.Proofs.Ytopiopomioglfaa
set_option maxRecDepth 100000
open Go Go.RowKit Go.ChangeShapes Go.WideShapes Go.Deep
set_option linter.unusedVariables false
section
variable {H : Type} {enc : TypeId × Value → H} {P : Program} {w : World} {base : Nat} {spare : Nat → Bool} {held : Bool}

/-- A field's cell has a reading at its type. -/
def Reads (enc : TypeId × Value → H) (P : Program) (w : World) (base : Nat) (spare : Nat → Bool) (held : Bool) (t : TypeId) (v : Value) : Prop :=
  ∃ y n, DataW.trod enc P w base spare held n t [v] = some y

theorem read_fields {t : TypeId} {fs : Array Field} {fuel : Nat} {cs : List Value} {x : DataW H × List MemPlace} (hs : P.underlying t = some (.struct fs)) (hone : oneCellFields P fs = true) (hC : P.cellsOf t = fs.size)
    (h : DataW.trod enc P w base spare held fuel t cs = some x) :
    cs.length = fs.size ∧ ∀ (j : Nat) (f : Field), fs[j]? = some f → ∃ v, cs[j]? = some v ∧ Reads enc P w base spare held f.type v := by
  obtain ⟨ys, n, _, _, hlen, hyl, hf⟩ := DataW.trod_struct hs h
  rw [hC] at hlen
  refine ⟨hlen, fun j f hj => ?_⟩
  obtain ⟨ho, hk⟩ := hone_of hone j f hj
  have hjl : j < fs.size := (Array.getElem?_eq_some_iff.1 hj).1
  have h1 := hf j f hj
  rw [ho, hk] at h1
  have e1 : (cs.drop j).take 1 = [cs[j]'(by omega)] := by
    rw [List.drop_eq_getElem_cons (by omega)]; rfl
  rw [e1] at h1
  exact ⟨cs[j]'(by omega), List.getElem?_eq_getElem (by omega), _, _, h1.trans (List.getElem?_eq_getElem (by omega : j < ys.length))⟩

theorem read_struct {r : Reach} {b0 : Nat} {t : TypeId} {fs : Array Field} {v : Value} {d : DataW H} {p : List MemPlace} (hs : P.underlying t = some (.struct fs)) (hone : oneCellFields P fs = true) (hC : P.cellsOf t = fs.size)
    (hv : Value.okWide P w r b0 t v) (h : DataW.Trod enc P w base spare held t v d p) :
    ∃ cs : Array Value, v = .agg cs ∧ cs.size = fs.size ∧ ∀ (j : Nat) (f : Field), fs[j]? = some f → ∃ c, cs[j]? = some c ∧ Reads enc P w base spare held f.type c := by
  obtain ⟨cs, rfl, hsz⟩ := okWide_struct hs hv
  obtain ⟨fuel, hf⟩ := h
  obtain ⟨hl, hr⟩ := read_fields hs hone hC hf
  refine ⟨cs, rfl, hsz.trans hC, fun j f hj => ?_⟩
  obtain ⟨c, hc, hy⟩ := hr j f hj
  exact ⟨c, by simpa [Value.cells] using hc, hy⟩

theorem Reads.int {t : TypeId} {k : IntKind} {v : Value} (ht : P.underlying t = some (.int k)) (h : Reads enc P w base spare held t v) : ∃ n, v = .int k n ∧ (Lit.int k n).wf = true := by
  obtain ⟨y, n, h⟩ := h
  obtain ⟨m, hm, _, hw⟩ := DataW.trod_int ht h
  simp at hm
  exact ⟨m, hm, hw⟩
theorem Reads.string {t : TypeId} {v : Value} (ht : P.underlying t = some .string) (h : Reads enc P w base spare held t v) : ∃ s, v = .string s ∧ s.size ≤ maxLen := by
  obtain ⟨y, n, h⟩ := h
  obtain ⟨m, hm, _, hw⟩ := DataW.trod_string ht h
  simp at hm
  exact ⟨m, hm, hw⟩
theorem Reads.bool {t : TypeId} {v : Value} (ht : P.underlying t = some .bool) (h : Reads enc P w base spare held t v) : ∃ b, v = .bool b := by
  obtain ⟨y, n, h⟩ := h
  obtain ⟨m, hm, _⟩ := DataW.trod_bool ht h
  simp at hm
  exact ⟨m, hm⟩
/-- A slice: nil, or its length, capacity, and what its elements' cells read. -/
theorem Reads.slice {t e : TypeId} {fs : Array Field} {v : Value} (ht : P.underlying t = some (.slice e)) (he : P.underlying e = some (.struct fs)) (hone : oneCellFields P fs = true) (hC : P.cellsOf e = fs.size)
    (h : Reads enc P w base spare held t v) :
    v = .slice none 0 0 ∨ ∃ (a : Addr) (len cap : Nat), v = .slice (some a) len cap ∧ base ≤ a.block ∧ len ≤ cap ∧ cap ≤ maxLen ∧
      ∀ i, i < len → ∀ (j : Nat) (f : Field), fs[j]? = some f → ∃ c, w.cell? (a.add (i * fs.size + j)) = some c ∧ Reads enc P w base spare held f.type c := by
  obtain ⟨y, n, h⟩ := h
  rcases open_slice ht h with ⟨hcs, _⟩ | ⟨a, len, cap, m, n, D, Pl, hcs, hb, hl, hm, hmm, hx, hi⟩
  · left; simpa using hcs
  · right
    simp at hcs
    refine ⟨a, len, cap, hcs, hb, hl, hm, fun i him j f hj => ?_⟩
    have hi' : i < m := by rw [hmm]; split <;> omega
    obtain ⟨cs', hc, ht'⟩ := hi i hi'
    obtain ⟨hlen, hf⟩ := read_fields he hone hC ht'
    obtain ⟨c, hcj, hr⟩ := hf j f hj
    obtain ⟨_, hcl, hat⟩ := World.cells?_some hc
    have hjl : j < fs.size := (Array.getElem?_eq_some_iff.1 hj).1
    refine ⟨c, ?_, hr⟩
    rw [← Go.Deep.add_add, hC] at *
    have := hat j (by omega)
    rw [this]; exact hcj
end
end Go.Proofs.Ytopiopomioglfaa
namespace Go.Proofs.Ytopiopomioglfaa
set_option maxRecDepth 100000
open Go Go.RowKit Go.ChangeShapes Go.WideShapes Go.Deep
set_option linter.unusedVariables false

theorem exists_list {α : Type} (P : Nat → α → Prop) (n : Nat) (h : ∀ i, i < n → ∃ o, P i o) : ∃ l : List α, l.length = n ∧ ∀ i o, l[i]? = some o → P i o := by
  induction n with
  | zero => exact ⟨[], rfl, fun i o h => by simp at h⟩
  | succ n ih =>
    obtain ⟨l, hl, hP⟩ := ih (fun i hi => h i (by omega))
    obtain ⟨o, ho⟩ := h n (by omega)
    refine ⟨l ++ [o], by simp [hl], fun i o' hi => ?_⟩
    by_cases hin : i < n
    · rw [List.getElem?_append_left (by omega)] at hi; exact hP i o' hi
    · have hlt := (List.getElem?_eq_some_iff.1 hi).1
      simp [hl] at hlt
      obtain rfl : i = n := by omega
      rw [List.getElem?_append_right (by omega), hl] at hi
      simp at hi; subst hi; exact ho

/-- A call of a script: which, a place or a block, a number, bytes, a mask. -/
structure OpR where
  k : Int
  a : Int
  n : Int
  s : ByteArray
  m : UInt8
structure OpR.Ok (o : OpR) : Prop where
  k : -9223372036854775808 ≤ o.k ∧ o.k ≤ 9223372036854775807
  a : -9223372036854775808 ≤ o.a ∧ o.a ≤ 9223372036854775807
  n : -9223372036854775808 ≤ o.n ∧ o.n ≤ 9223372036854775807
  s : o.s.size ≤ maxLen
/-- It lies at p. -/
structure OpAt (w : World) (p : Addr) (o : OpR) : Prop where
  k : w.cell? p = some (.int .i64 o.k)
  a : w.cell? (p.add 1) = some (.int .i64 o.a)
  n : w.cell? (p.add 2) = some (.int .i64 o.n)
  s : w.cell? (p.add 3) = some (.string o.s)
  m : w.cell? (p.add 4) = some (.int .u8 (o.m.toNat : Int))
  ok : o.Ok
/-- The slice sl holds the calls of l. -/
def Script (w : World) (sl : Value) (l : List OpR) : Prop :=
  ∃ (ao : Option Addr) (cap : Nat), sl = .slice ao l.length cap ∧ l.length ≤ maxLen ∧ ∀ i o, l[i]? = some o → ∃ a, ao = some a ∧ OpAt w (a.add (i * 5)) o

theorem Script.of_reads {H : Type} {enc : TypeId × Value → H} {P : Program} {w : World} {base : Nat} {spare : Nat → Bool} {held : Bool} {t e ti ts tb : TypeId} {v : Value} {n0 n1 n2 n3 n4 : Field}
    (ht : P.underlying t = some (.slice e)) (he : P.underlying e = some (.struct #[n0, n1, n2, n3, n4])) (hone : oneCellFields P #[n0, n1, n2, n3, n4] = true) (hC : P.cellsOf e = 5)
    (h0 : n0.type = ti) (h1 : n1.type = ti) (h2 : n2.type = ti) (h3 : n3.type = ts) (h4 : n4.type = tb)
    (hti : P.underlying ti = some (.int .i64)) (hts : P.underlying ts = some .string) (htb : P.underlying tb = some (.int .u8))
    (h : Reads enc P w base spare held t v) : ∃ l, Script w v l := by
  rcases Reads.slice ht he hone hC h with rfl | ⟨a, len, cap, rfl, hb, hl, hm, hi⟩
  · exact ⟨[], none, 0, rfl, Nat.zero_le _, fun i o h => by simp at h⟩
  · have hex : ∀ i, i < len → ∃ o, OpAt w (a.add (i * 5)) o := by
      intro i hil
      obtain ⟨c0, g0, r0⟩ := hi i hil 0 _ rfl
      obtain ⟨c1, g1, r1⟩ := hi i hil 1 _ rfl
      obtain ⟨c2, g2, r2⟩ := hi i hil 2 _ rfl
      obtain ⟨c3, g3, r3⟩ := hi i hil 3 _ rfl
      obtain ⟨c4, g4, r4⟩ := hi i hil 4 _ rfl
      have r0 := h0 ▸ r0; have r1 := h1 ▸ r1; have r2 := h2 ▸ r2; have r3 := h3 ▸ r3; have r4 := h4 ▸ r4
      obtain ⟨k, rfl, wk⟩ := r0.int hti
      obtain ⟨x, rfl, wx⟩ := r1.int hti
      obtain ⟨n, rfl, wn⟩ := r2.int hti
      obtain ⟨s, rfl, ws⟩ := r3.string hts
      obtain ⟨m, rfl, wm⟩ := r4.int htb
      have bm := bounds_u8 wm
      have em : m = ((UInt8.ofNat m.toNat).toNat : Int) := by rw [UInt8.toNat_ofNat']; omega
      have ha : ∀ j, (a.add (i * 5)).add j = a.add (i * 5 + j) := fun j => Go.Deep.add_add a _ _
      refine ⟨⟨k, x, n, s, UInt8.ofNat m.toNat⟩, ⟨by simpa using g0, by rw [ha]; simpa using g1, by rw [ha]; simpa using g2, by rw [ha]; simpa using g3, by rw [ha, ← em]; simpa using g4, ⟨bounds_i64 wk, bounds_i64 wx, bounds_i64 wn, ws⟩⟩⟩
    obtain ⟨l, hll, hP⟩ := exists_list _ _ hex
    exact ⟨l, some a, cap, by rw [hll], by omega, fun i o h => ⟨a, rfl, hP i o h⟩⟩
/-- The cells in the walk's own spelling. -/
theorem OpAt.flat {w : World} {p : Addr} {o : OpR} (h : OpAt w p o) : w.cell? p = some (.int .i64 o.k) ∧ w.cell? ⟨p.block, p.off + 1, none⟩ = some (.int .i64 o.a) ∧ w.cell? ⟨p.block, p.off + 2, none⟩ = some (.int .i64 o.n) ∧
    w.cell? ⟨p.block, p.off + 3, none⟩ = some (.string o.s) ∧ w.cell? ⟨p.block, p.off + 4, none⟩ = some (.int .u8 (o.m.toNat : Int)) := ⟨h.k, h.a, h.n, h.s, h.m⟩
theorem OpAt.lt {w : World} {p : Addr} {o : OpR} (h : OpAt w p o) : p.block < w.heap.size := World.block_lt_of_cell? w p h.k
theorem OpAt.below {B : Nat} {w w' : World} {p : Addr} {o : OpR} (h : OpAt w p o) (hb : Below B w w') (hp : p.block < B) : OpAt w' p o := by
  have hq : ∀ j, (p.add j).block = p.block := by intro j; unfold Addr.add; split <;> rfl
  exact ⟨(hb.cell hp).trans h.k, (hb.cell (by rw [hq]; exact hp)).trans h.a, (hb.cell (by rw [hq]; exact hp)).trans h.n, (hb.cell (by rw [hq]; exact hp)).trans h.s, (hb.cell (by rw [hq]; exact hp)).trans h.m, h.ok⟩
theorem Script.below {w w' : World} {sl : Value} {l : List OpR} (h : Script w sl l) (hb : Below w.heap.size w w') : Script w' sl l := by
  obtain ⟨ao, cap, h1, h2, h3⟩ := h
  exact ⟨ao, cap, h1, h2, fun i o hi => by obtain ⟨a, e, ha⟩ := h3 i o hi; exact ⟨a, e, ha.below hb ha.lt⟩⟩
end Go.Proofs.Ytopiopomioglfaa
namespace Go.Proofs.Ytopiopomioglfaa
set_option maxRecDepth 100000
open Go Go.RowKit Go.ChangeShapes Go.WideShapes Go.Deep
set_option linter.unusedVariables false

end Go.Proofs.Ytopiopomioglfaa
