/- Logs: Append. Images in slots: how a writer lies in memory; a page is written; Begin, Size, Read. The document's part of a flash: New. Arguments that are structs: read field by field; what came in reads behind the call as before it. Arguments that are scripts: bytes and a slice of calls. The argument of the laws of part: how many blocks, a region, a script. -/
import Derived.Test.YtgcbmjflodgnbaaGreatDoorM10
import Derived.Test.YtgcbmjflodgnbaaGreatDoorM04
import Derived.Test.YtgcbmjflodgnbaaGreatDoorM05
import Derived.Deep.DeepCutAuto
import Derived.Deep.CutBlock
import Derived.Test.YtgcbmjflodgnbaaGreatDoorM08
import Derived.Test.YtgcbmjflodgnbaaGreatDoorM01
import Derived.Deep.Slices
import Derived.Deep.Fields
import Derived.ChangeSame
import Derived.ProofKit
import Derived.OpenShut
import Derived.ShutString
import Derived.ChangeOld
import Derived.Carry
namespace Go.Proofs.YtgcbmjflodgnbaaGreatDoor
set_option maxRecDepth 100000
set_option linter.unusedVariables false
open Go Go.RowKit

theorem lpages_snoc (F B : Int) (a : Nat) (r : List UInt8) : ∀ (m i : Nat) (s : FS) (l : LS), FS.lpages F B a r (m + 1) i s l = if (FS.lpages F B a r m i s l).2.2 ≠ 0 then FS.lpages F B a r m i s l else (FS.lpages F B a r m i s l).1.lwrite F B (FS.lpages F B a r m i s l).2.1 (a + 64 * (i + m)) (pageL r (i + m))
  | 0, i, s, l => by
    have e0 : FS.lpages F B a r 0 i s l = (s, l, 0) := rfl
    have e1 : FS.lpages F B a r (0 + 1) i s l = if (s.lwrite F B l (a + 64 * i) (pageL r i)).2.2 ≠ 0 then s.lwrite F B l (a + 64 * i) (pageL r i) else ((s.lwrite F B l (a + 64 * i) (pageL r i)).1, (s.lwrite F B l (a + 64 * i) (pageL r i)).2.1, 0) := rfl
    rw [e0, e1, Nat.add_zero]
    show _ = if (0 : Int) ≠ 0 then _ else s.lwrite F B l (a + 64 * i) (pageL r i)
    rw [if_neg (show ¬ (0 : Int) ≠ 0 by simp)]
    generalize s.lwrite F B l (a + 64 * i) (pageL r i) = c
    obtain ⟨c1, c2, c3⟩ := c
    dsimp only
    split
    · rfl
    · rename_i h
      have h0 : c3 = 0 := Classical.byContradiction h
      rw [h0]
  | m + 1, i, s, l => by
    have e1 : ∀ n, FS.lpages F B a r (n + 1) i s l = if (s.lwrite F B l (a + 64 * i) (pageL r i)).2.2 ≠ 0 then s.lwrite F B l (a + 64 * i) (pageL r i) else FS.lpages F B a r n (i + 1) (s.lwrite F B l (a + 64 * i) (pageL r i)).1 (s.lwrite F B l (a + 64 * i) (pageL r i)).2.1 := fun _ => rfl
    rw [e1 (m + 1), e1 m]
    by_cases h : (s.lwrite F B l (a + 64 * i) (pageL r i)).2.2 ≠ 0
    · simp only [if_pos h]
    · simp only [if_neg h]
      rw [lpages_snoc F B a r m (i + 1), show i + 1 + m = i + (m + 1) by omega]
theorem lpages_stay (F B : Int) (a : Nat) (r : List UInt8) (i : Nat) (s : FS) (l : LS) (k : Nat) (h : (FS.lpages F B a r k i s l).2.2 ≠ 0) : ∀ m, FS.lpages F B a r (k + m) i s l = FS.lpages F B a r k i s l
  | 0 => rfl
  | m + 1 => by
    rw [show k + (m + 1) = (k + m) + 1 by omega, lpages_snoc, lpages_stay F B a r i s l k h m, if_pos h]
theorem own_form {w : World} {base : Nat} {e : TypeId} {size : Nat} {v : Value} {n : Nat} {xs : List Value} (h : w.ownsRow base e size v n xs) (hn : 0 < n) : ∃ g cap, v = .slice (some ⟨g, 0, none⟩) n cap := by
  rcases h.2 with ⟨_, h0⟩ | ⟨g, cap, cur, hv, _⟩
  · omega
  · exact ⟨g, cap, hv⟩
theorem lmakes_segs (s : FS) (F B : Int) (l : LS) (b num : Nat) (h : (s.lmakes F B l b num).2.2 = 0) : (s.lmakes F B l b num).2.1.segs = l.segs ++ [(b, num)] := by
  unfold FS.lmakes at h ⊢
  dsimp only at h ⊢
  split at h
  · rename_i h1; exact absurd h h1
  · rename_i h1; rw [if_neg h1]
    split at h
    · rename_i h2; exact absurd h h2
    · rename_i h2; rw [if_neg h2]
      split at h
      · rename_i h3; exact absurd h h3
      · rename_i h3; rw [if_neg h3]; rfl
end Go.Proofs.YtgcbmjflodgnbaaGreatDoor
namespace Go.Proofs.YtgcbmjflodgnbaaGreatDoor
set_option maxRecDepth 100000
set_option linter.unusedVariables false
open Go Go.RowKit

/-- copy from a string, as much as there is room. -/
theorem run_copy_min {P : Program} (w : World) (dT sT ty elem : TypeId) (g o dLen dCap : Nat) (s : ByteArray) (cur : Array Value) (t : TypeId) (m : Nat) (hm : m = min s.size dLen)
    (hu : P.underlying dT = some (.slice elem)) (hs : (P.info? elem).map (·.size) = some 1) (hg : w.heap[g]? = some (.cells cur t (0, 0))) (hfit : o + m ≤ cur.size) :
    (Builtin.copy_ #[dT, sT] ty #[.slice (some ⟨g, o, none⟩) dLen dCap, .string s]).run P w =
      .ok (goInt m) (w.setRow g (cur.toList.take o ++ (s.data.toList.take m).map bval ++ cur.toList.drop (o + m)).toArray) := by
  have hsz : s.data.toList.length = s.size := by simp
  have hlen : ((s.data.toList.take m).map bval).length = m := by rw [List.length_map, List.length_take, hsz]; omega
  have hst := run_storeCells_at P g o t ((s.data.toList.take m).map bval) 0 cur w hg (by rw [hlen]; simpa using hfit) (by
    intro v hv
    obtain ⟨b, _, rfl⟩ := List.mem_map.1 hv
    rfl)
  have hmin : Nat.min s.size dLen = m := hm.symm
  have htk : List.take m (List.map (fun b : UInt8 => Value.int IntKind.u8 (b.toNat : Int)) s.data.toList) = (s.data.toList.take m).map bval := by
    rw [List.map_take]; rfl
  rw [hlen] at hst
  simp only [Nat.add_zero] at hst
  cases hq : P.info? elem with
  | none => simp [hq] at hs
  | some i =>
    simp [Builtin.copy_, run_underlying hu, Builtin.lenOf, Builtin.firstCells, sizeOf, typeInfo, hq, hmin]
    rw [htk, hst]
    simp [Result.andThen]
theorem wpList_copy_str {P : Program} {w : World} {ops : Array Oper} {rest : List Oper} {o : Oper} {a : Act} {Q : Exit → Act → World → Prop} (hgd : o.guard = none) (d s : Operand) (dT sT : TypeId)
    (ho : o.op = .call { callee := .builtin .copy, args := #[d, s], argTypes := #[dT, sT] }) (elem : TypeId) (hu : P.underlying dT = some (.slice elem)) (hsz : (P.info? elem).map (·.size) = some 1)
    (g off dLen dCap : Nat) (t : ByteArray) (hd : a.eval d = .slice (some ⟨g, off, none⟩) dLen dCap) (hs : a.eval s = .string t)
    (cur : Array Value) (te : TypeId) (hg : w.heap[g]? = some (.cells cur te (0, 0))) (m : Nat) (hm : m = min t.size dLen) (hfit : off + m ≤ cur.size)
    (W' : World) (hW : W' = w.setRow g (cur.toList.take off ++ (t.data.toList.take m).map bval ++ cur.toList.drop (off + m)).toArray)
    (h : wpList P ops Q rest (a.put o.dst (goInt m)) W') : wpList P ops Q (o :: rest) a w := by
  subst hW
  refine wpList_plain hgd fun K hK => ?_
  have hrun := run_copy_min (P := P) w dT sT o.type elem g off dLen dCap t cur te m hm hu hsz hg hfit
  have he : (execOp a.eval o).run P w = .ok (.value (goInt m)) (w.setRow g (cur.toList.take off ++ (t.data.toList.take m).map bval ++ cur.toList.drop (off + m)).toArray) := by
    simp [execOp, ho, resolve, invoke, builtin, hd, hs, hrun, Result.andThen]
  unfold Oper.wp
  rw [he]
  exact hK _ _ h

/-- The cells of a writer. -/
def swc (q : Nat) (page : List UInt8) (size : Int) (ended : Bool) (e : Int) : List Value := .pointer (some ⟨q, 0, none⟩) :: (page.map bval ++ [.int .i64 size, .bool ended, .int .i64 e])
theorem swc_len {q : Nat} {page : List UInt8} {size : Int} {ended : Bool} {e : Int} (h : page.length = 64) : (swc q page size ended e).length = 68 := by simp [swc, h]
theorem swc_at {q : Nat} {page : List UInt8} {size : Int} {ended : Bool} {e : Int} (h : page.length = 64) :
    (swc q page size ended e)[0]? = some (.pointer (some ⟨q, 0, none⟩)) ∧ (swc q page size ended e)[65]? = some (.int .i64 size) ∧ (swc q page size ended e)[66]? = some (.bool ended) ∧ (swc q page size ended e)[67]? = some (.int .i64 e) := by
  refine ⟨rfl, ?_, ?_, ?_⟩ <;> (simp only [swc, List.getElem?_cons_succ]; rw [List.getElem?_append_right (by simp [h])]; simp [h])
theorem swc_byte {q : Nat} {page : List UInt8} {size : Int} {ended : Bool} {e : Int} {j : Nat} {u : UInt8} (hu : page[j]? = some u) : (swc q page size ended e)[1 + j]? = some (bval u) := by
  have hj := (List.getElem?_eq_some_iff.1 hu).1
  rw [Nat.add_comm]
  simp only [swc, List.getElem?_cons_succ]
  rw [List.getElem?_append_left (by simpa using hj), List.getElem?_map, hu]; rfl
theorem swc_set {q : Nat} {page : List UInt8} {size : Int} {ended : Bool} {e : Int} (h : page.length = 64) :
    (∀ v, (swc q page size ended e).toArray.setIfInBounds 65 (.int .i64 v) = (swc q page v ended e).toArray) ∧ (∀ v, (swc q page size ended e).toArray.setIfInBounds 66 (.bool v) = (swc q page size v e).toArray) ∧ (∀ v, (swc q page size ended e).toArray.setIfInBounds 67 (.int .i64 v) = (swc q page size ended v).toArray) := by
  refine ⟨fun v => ?_, fun v => ?_, fun v => ?_⟩ <;> (rw [List.setIfInBounds_toArray]; congr 1; simp only [swc, List.set_cons_succ]; rw [List.set_append_right _ _ (by simp [h])]; simp [h])
/-- Read of a slot. -/
def sreadV (s : FS) (F B : Int) (n : Int) : ByteArray × Int := if 0 ≤ n ∧ n ≤ 512 * B then preadV s F B 0 n else (⟨#[]⟩, 240)
end Go.Proofs.YtgcbmjflodgnbaaGreatDoor
namespace Go.Proofs.YtgcbmjflodgnbaaGreatDoor
set_option maxRecDepth 100000
set_option linter.unusedVariables false
open Go Go.RowKit

set_option maxHeartbeats 2000000 in
theorem rpnew_yes (p bb cb : Nat) (F B : Int) (s : FS) (w : World) (hf : Fl 73 w p bb cb s) (hi : In s.n.length F B) :
    Calls Tryz.prog 19 #[.pointer (some ⟨p, 0, none⟩), .agg #[.int .i64 F, .int .i64 B]] w fun e w' => ∃ q, e = .returned (.tuple #[.pointer (some ⟨q, 0, none⟩), .int .i64 0]) ∧ RPa w' q p F B ∧ w.heap.size ≤ q ∧ Below w.heap.size w w' := by
  have h1 : decide (F < 0) = false := by rw [decide_eq_false_iff_not]; have := hi.lo; omega
  have h2 : decide (B < 1) = false := by rw [decide_eq_false_iff_not]; have := hi.some; omega
  obtain ⟨n, hn⟩ : ∃ n, n = s.n.length := ⟨_, rfl⟩
  have h3 : decide ((n : Int) < F) = false := by rw [decide_eq_false_iff_not]; have := hi.hi; have := hi.some; omega
  have hw : IntKind.i64.wrap ((n : Int) - F) = (n : Int) - F := by rw [IntKind.wrap_i64]; have := hi.hi; have := hi.lo; have := hi.few; have := hi.some; omega
  have h4 : decide ((n : Int) - F < B) = false := by rw [decide_eq_false_iff_not]; have := hi.hi; omega
  obtain ⟨w1, hw1⟩ : ∃ w1, w1 = w.alloc (.cells #[.int .i64 F, .int .i64 B] 53) := ⟨_, rfl⟩
  have hb1 : Below w.heap.size w w1 := by rw [hw1]; exact (Below.refl _ _).alloc (Nat.le_refl _) _
  have r1 : w1.heap[w.heap.size]? = some (.cells #[.int .i64 F, .int .i64 B] 53 (0, 0)) := by rw [hw1]; exact heap_alloc_new _ _
  have c0 : w1.cell? ⟨w.heap.size, 0, none⟩ = some (.int .i64 F) := (cell_of_row _ _ _ _ _ _ r1).trans rfl
  have c1 : w1.cell? ⟨w.heap.size, 1, none⟩ = some (.int .i64 B) := (cell_of_row _ _ _ _ _ _ r1).trans rfl
  obtain ⟨bcap, ccap, hb, hc, d0, d1, d2, d3, d4, d5, d6⟩ := (hf.upd (Upd.of_below hb1) (S := []) (by simp) (by simp) (by simp)).cells
  rw [← hn] at d1
  have B1 := Box.mk hb1
  clear hn hf hi r1 hb1 d0 d2 d3 d4 d5 d6 hb hc
  go_enter Tryz.func19, Tryz.ntmps19
  go_upto_region 1 with (fail)
  rw [← hw1]
  clear hw1
  go_wp2_with fail
  go_ret2
  exact ⟨w1.heap.size, rfl, ⟨heap_alloc_new _ _⟩, B1.out.size, B1.out.alloc B1.out.size _⟩
set_option maxHeartbeats 2000000 in
theorem rpnew_no (p bb cb : Nat) (F B : Int) (s : FS) (w : World) (hf : Fl 73 w p bb cb s) (hok : s.Ok) (hi : ¬ In s.n.length F B) (bF : -9223372036854775808 ≤ F ∧ F ≤ 9223372036854775807) :
    Calls Tryz.prog 19 #[.pointer (some ⟨p, 0, none⟩), .agg #[.int .i64 F, .int .i64 B]] w fun e w' => e = .returned (.tuple #[.pointer none, .int .i64 120]) ∧ Below w.heap.size w w' := by
  have hfew := hok.few
  obtain ⟨n, hn⟩ : ∃ n, n = s.n.length := ⟨_, rfl⟩
  have hi' : ¬ (0 ≤ F ∧ 1 ≤ B ∧ F + B ≤ (n : Int)) := fun ⟨a, b, c⟩ => hi ⟨a, b, by rw [← hn]; exact c, hfew.2⟩
  rw [← hn] at hfew
  obtain ⟨w1, hw1⟩ : ∃ w1, w1 = w.alloc (.cells #[.int .i64 F, .int .i64 B] 53) := ⟨_, rfl⟩
  have hb1 : Below w.heap.size w w1 := by rw [hw1]; exact (Below.refl _ _).alloc (Nat.le_refl _) _
  have r1 : w1.heap[w.heap.size]? = some (.cells #[.int .i64 F, .int .i64 B] 53 (0, 0)) := by rw [hw1]; exact heap_alloc_new _ _
  have c0 : w1.cell? ⟨w.heap.size, 0, none⟩ = some (.int .i64 F) := (cell_of_row _ _ _ _ _ _ r1).trans rfl
  have c1 : w1.cell? ⟨w.heap.size, 1, none⟩ = some (.int .i64 B) := (cell_of_row _ _ _ _ _ _ r1).trans rfl
  obtain ⟨bcap, ccap, hb, hc, d0, d1, d2, d3, d4, d5, d6⟩ := (hf.upd (Upd.of_below hb1) (S := []) (by simp) (by simp) (by simp)).cells
  rw [← hn] at d1
  have B1 := Box.mk hb1
  clear hn hf hi r1 hb1 hok d0 d2 d3 d4 d5 d6 hb hc
  by_cases g1 : F < 0
  · have h1 : decide (F < 0) = true := by simpa using g1
    clear hi' g1
    go_enter Tryz.func19, Tryz.ntmps19
    go_upto_region 1 with (fail)
    rw [← hw1]
    clear hw1
    go_wp2_with fail
    go_ret2
    exact ⟨rfl, B1.out⟩
  · have h1 : decide (F < 0) = false := by simpa using g1
    by_cases g2 : B < 1
    · have h2 : decide (B < 1) = true := by simpa using g2
      clear hi' g1 g2
      go_enter Tryz.func19, Tryz.ntmps19
      go_upto_region 1 with (fail)
      rw [← hw1]
      clear hw1
      go_wp2_with fail
      go_ret2
      exact ⟨rfl, B1.out⟩
    · have h2 : decide (B < 1) = false := by simpa using g2
      by_cases g3 : (n : Int) < F
      · have h3 : decide ((n : Int) < F) = true := by simpa using g3
        clear hi' g1 g2 g3
        go_enter Tryz.func19, Tryz.ntmps19
        go_upto_region 1 with (fail)
        rw [← hw1]
        clear hw1
        go_wp2_with fail
        go_ret2
        exact ⟨rfl, B1.out⟩
      · have h3 : decide ((n : Int) < F) = false := by simpa using g3
        have hw : IntKind.i64.wrap ((n : Int) - F) = (n : Int) - F := by rw [IntKind.wrap_i64]; omega
        have h4 : decide ((n : Int) - F < B) = true := by rw [decide_eq_true_eq]; omega
        clear hi' g1 g2 g3
        go_enter Tryz.func19, Tryz.ntmps19
        go_upto_region 1 with (fail)
        rw [← hw1]
        clear hw1
        go_wp2_with fail
        go_ret2
        exact ⟨rfl, B1.out⟩
end Go.Proofs.YtgcbmjflodgnbaaGreatDoor
namespace Go.Proofs.YtgcbmjflodgnbaaGreatDoor
set_option maxRecDepth 100000
open Go Go.RowKit Go.ChangeShapes Go.WideShapes Go.Deep
set_option linter.unusedVariables false
section
variable {H : Type} {enc : TypeId × Value → H} {P : Program} {w : World} {base : Nat} {spare : Nat → Bool} {held : Bool}

/-- A field's cell has a reading at its type. -/
def Reads (enc : TypeId × Value → H) (P : Program) (w : World) (base : Nat) (spare : Nat → Bool) (held : Bool) (t : TypeId) (v : Value) : Prop :=
  ∃ y n, DataW.trod enc P w base spare held n t [v] = some y

theorem read_fields {t : TypeId} {fs : Array Field} {fuel : Nat} {cs : List Value} {x : DataW H × List MemPlace} (hs : P.underlying t = some (.struct fs)) (hone : oneCellFields P fs = true) (hC : P.cellsOf t = fs.size)
    (h : DataW.trod enc P w base spare held fuel t cs = some x) :
    cs.length = fs.size ∧ ∀ (j : Nat) (f : Field), fs[j]? = some f → ∃ v, cs[j]? = some v ∧ Reads enc P w base spare held f.type v := by
  obtain ⟨ys, n, _, _, hlen, hyl, hf⟩ := DataW.trod_struct hs h
  rw [hC] at hlen
  refine ⟨hlen, fun j f hj => ?_⟩
  obtain ⟨ho, hk⟩ := hone_of hone j f hj
  have hjl : j < fs.size := (Array.getElem?_eq_some_iff.1 hj).1
  have h1 := hf j f hj
  rw [ho, hk] at h1
  have e1 : (cs.drop j).take 1 = [cs[j]'(by omega)] := by
    rw [List.drop_eq_getElem_cons (by omega)]; rfl
  rw [e1] at h1
  exact ⟨cs[j]'(by omega), List.getElem?_eq_getElem (by omega), _, _, h1.trans (List.getElem?_eq_getElem (by omega : j < ys.length))⟩

theorem read_struct {r : Reach} {b0 : Nat} {t : TypeId} {fs : Array Field} {v : Value} {d : DataW H} {p : List MemPlace} (hs : P.underlying t = some (.struct fs)) (hone : oneCellFields P fs = true) (hC : P.cellsOf t = fs.size)
    (hv : Value.okWide P w r b0 t v) (h : DataW.Trod enc P w base spare held t v d p) :
    ∃ cs : Array Value, v = .agg cs ∧ cs.size = fs.size ∧ ∀ (j : Nat) (f : Field), fs[j]? = some f → ∃ c, cs[j]? = some c ∧ Reads enc P w base spare held f.type c := by
  obtain ⟨cs, rfl, hsz⟩ := okWide_struct hs hv
  obtain ⟨fuel, hf⟩ := h
  obtain ⟨hl, hr⟩ := read_fields hs hone hC hf
  refine ⟨cs, rfl, hsz.trans hC, fun j f hj => ?_⟩
  obtain ⟨c, hc, hy⟩ := hr j f hj
  exact ⟨c, by simpa [Value.cells] using hc, hy⟩

theorem Reads.int {t : TypeId} {k : IntKind} {v : Value} (ht : P.underlying t = some (.int k)) (h : Reads enc P w base spare held t v) : ∃ n, v = .int k n ∧ (Lit.int k n).wf = true := by
  obtain ⟨y, n, h⟩ := h
  obtain ⟨m, hm, _, hw⟩ := DataW.trod_int ht h
  simp at hm
  exact ⟨m, hm, hw⟩
theorem Reads.string {t : TypeId} {v : Value} (ht : P.underlying t = some .string) (h : Reads enc P w base spare held t v) : ∃ s, v = .string s ∧ s.size ≤ maxLen := by
  obtain ⟨y, n, h⟩ := h
  obtain ⟨m, hm, _, hw⟩ := DataW.trod_string ht h
  simp at hm
  exact ⟨m, hm, hw⟩
theorem Reads.bool {t : TypeId} {v : Value} (ht : P.underlying t = some .bool) (h : Reads enc P w base spare held t v) : ∃ b, v = .bool b := by
  obtain ⟨y, n, h⟩ := h
  obtain ⟨m, hm, _⟩ := DataW.trod_bool ht h
  simp at hm
  exact ⟨m, hm⟩
/-- A slice: nil, or its length, capacity, and what its elements' cells read. -/
theorem Reads.slice {t e : TypeId} {fs : Array Field} {v : Value} (ht : P.underlying t = some (.slice e)) (he : P.underlying e = some (.struct fs)) (hone : oneCellFields P fs = true) (hC : P.cellsOf e = fs.size)
    (h : Reads enc P w base spare held t v) :
    v = .slice none 0 0 ∨ ∃ (a : Addr) (len cap : Nat), v = .slice (some a) len cap ∧ base ≤ a.block ∧ len ≤ cap ∧ cap ≤ maxLen ∧
      ∀ i, i < len → ∀ (j : Nat) (f : Field), fs[j]? = some f → ∃ c, w.cell? (a.add (i * fs.size + j)) = some c ∧ Reads enc P w base spare held f.type c := by
  obtain ⟨y, n, h⟩ := h
  rcases open_slice ht h with ⟨hcs, _⟩ | ⟨a, len, cap, m, n, D, Pl, hcs, hb, hl, hm, hmm, hx, hi⟩
  · left; simpa using hcs
  · right
    simp at hcs
    refine ⟨a, len, cap, hcs, hb, hl, hm, fun i him j f hj => ?_⟩
    have hi' : i < m := by rw [hmm]; split <;> omega
    obtain ⟨cs', hc, ht'⟩ := hi i hi'
    obtain ⟨hlen, hf⟩ := read_fields he hone hC ht'
    obtain ⟨c, hcj, hr⟩ := hf j f hj
    obtain ⟨_, hcl, hat⟩ := World.cells?_some hc
    have hjl : j < fs.size := (Array.getElem?_eq_some_iff.1 hj).1
    refine ⟨c, ?_, hr⟩
    rw [← Go.Deep.add_add, hC] at *
    have := hat j (by omega)
    rw [this]; exact hcj
end
end Go.Proofs.YtgcbmjflodgnbaaGreatDoor
namespace Go.Proofs.YtgcbmjflodgnbaaGreatDoor
set_option maxRecDepth 100000
open Go Go.RowKit Go.ChangeShapes Go.WideShapes Go.Deep
set_option linter.unusedVariables false

theorem exists_list {α : Type} (P : Nat → α → Prop) (n : Nat) (h : ∀ i, i < n → ∃ o, P i o) : ∃ l : List α, l.length = n ∧ ∀ i o, l[i]? = some o → P i o := by
  induction n with
  | zero => exact ⟨[], rfl, fun i o h => by simp at h⟩
  | succ n ih =>
    obtain ⟨l, hl, hP⟩ := ih (fun i hi => h i (by omega))
    obtain ⟨o, ho⟩ := h n (by omega)
    refine ⟨l ++ [o], by simp [hl], fun i o' hi => ?_⟩
    by_cases hin : i < n
    · rw [List.getElem?_append_left (by omega)] at hi; exact hP i o' hi
    · have hlt := (List.getElem?_eq_some_iff.1 hi).1
      simp [hl] at hlt
      obtain rfl : i = n := by omega
      rw [List.getElem?_append_right (by omega), hl] at hi
      simp at hi; subst hi; exact ho

/-- A call of a script: which, a place or a block, a number, bytes, a mask. -/
structure OpR where
  k : Int
  a : Int
  n : Int
  s : ByteArray
  m : UInt8
structure OpR.Ok (o : OpR) : Prop where
  k : -9223372036854775808 ≤ o.k ∧ o.k ≤ 9223372036854775807
  a : -9223372036854775808 ≤ o.a ∧ o.a ≤ 9223372036854775807
  n : -9223372036854775808 ≤ o.n ∧ o.n ≤ 9223372036854775807
  s : o.s.size ≤ maxLen
/-- It lies at p. -/
structure OpAt (w : World) (p : Addr) (o : OpR) : Prop where
  k : w.cell? p = some (.int .i64 o.k)
  a : w.cell? (p.add 1) = some (.int .i64 o.a)
  n : w.cell? (p.add 2) = some (.int .i64 o.n)
  s : w.cell? (p.add 3) = some (.string o.s)
  m : w.cell? (p.add 4) = some (.int .u8 (o.m.toNat : Int))
  ok : o.Ok
/-- The slice sl holds the calls of l. -/
def Script (w : World) (sl : Value) (l : List OpR) : Prop :=
  ∃ (ao : Option Addr) (cap : Nat), sl = .slice ao l.length cap ∧ l.length ≤ maxLen ∧ ∀ i o, l[i]? = some o → ∃ a, ao = some a ∧ OpAt w (a.add (i * 5)) o

theorem Script.of_reads {H : Type} {enc : TypeId × Value → H} {P : Program} {w : World} {base : Nat} {spare : Nat → Bool} {held : Bool} {t e ti ts tb : TypeId} {v : Value} {n0 n1 n2 n3 n4 : Field}
    (ht : P.underlying t = some (.slice e)) (he : P.underlying e = some (.struct #[n0, n1, n2, n3, n4])) (hone : oneCellFields P #[n0, n1, n2, n3, n4] = true) (hC : P.cellsOf e = 5)
    (h0 : n0.type = ti) (h1 : n1.type = ti) (h2 : n2.type = ti) (h3 : n3.type = ts) (h4 : n4.type = tb)
    (hti : P.underlying ti = some (.int .i64)) (hts : P.underlying ts = some .string) (htb : P.underlying tb = some (.int .u8))
    (h : Reads enc P w base spare held t v) : ∃ l, Script w v l := by
  rcases Reads.slice ht he hone hC h with rfl | ⟨a, len, cap, rfl, hb, hl, hm, hi⟩
  · exact ⟨[], none, 0, rfl, Nat.zero_le _, fun i o h => by simp at h⟩
  · have hex : ∀ i, i < len → ∃ o, OpAt w (a.add (i * 5)) o := by
      intro i hil
      obtain ⟨c0, g0, r0⟩ := hi i hil 0 _ rfl
      obtain ⟨c1, g1, r1⟩ := hi i hil 1 _ rfl
      obtain ⟨c2, g2, r2⟩ := hi i hil 2 _ rfl
      obtain ⟨c3, g3, r3⟩ := hi i hil 3 _ rfl
      obtain ⟨c4, g4, r4⟩ := hi i hil 4 _ rfl
      have r0 := h0 ▸ r0; have r1 := h1 ▸ r1; have r2 := h2 ▸ r2; have r3 := h3 ▸ r3; have r4 := h4 ▸ r4
      obtain ⟨k, rfl, wk⟩ := r0.int hti
      obtain ⟨x, rfl, wx⟩ := r1.int hti
      obtain ⟨n, rfl, wn⟩ := r2.int hti
      obtain ⟨s, rfl, ws⟩ := r3.string hts
      obtain ⟨m, rfl, wm⟩ := r4.int htb
      have bm := bounds_u8 wm
      have em : m = ((UInt8.ofNat m.toNat).toNat : Int) := by rw [UInt8.toNat_ofNat']; omega
      have ha : ∀ j, (a.add (i * 5)).add j = a.add (i * 5 + j) := fun j => Go.Deep.add_add a _ _
      refine ⟨⟨k, x, n, s, UInt8.ofNat m.toNat⟩, ⟨by simpa using g0, by rw [ha]; simpa using g1, by rw [ha]; simpa using g2, by rw [ha]; simpa using g3, by rw [ha, ← em]; simpa using g4, ⟨bounds_i64 wk, bounds_i64 wx, bounds_i64 wn, ws⟩⟩⟩
    obtain ⟨l, hll, hP⟩ := exists_list _ _ hex
    exact ⟨l, some a, cap, by rw [hll], by omega, fun i o h => ⟨a, rfl, hP i o h⟩⟩
/-- The cells in the walk's own spelling. -/
theorem OpAt.flat {w : World} {p : Addr} {o : OpR} (h : OpAt w p o) : w.cell? p = some (.int .i64 o.k) ∧ w.cell? ⟨p.block, p.off + 1, none⟩ = some (.int .i64 o.a) ∧ w.cell? ⟨p.block, p.off + 2, none⟩ = some (.int .i64 o.n) ∧
    w.cell? ⟨p.block, p.off + 3, none⟩ = some (.string o.s) ∧ w.cell? ⟨p.block, p.off + 4, none⟩ = some (.int .u8 (o.m.toNat : Int)) := ⟨h.k, h.a, h.n, h.s, h.m⟩
theorem OpAt.lt {w : World} {p : Addr} {o : OpR} (h : OpAt w p o) : p.block < w.heap.size := World.block_lt_of_cell? w p h.k
theorem OpAt.below {B : Nat} {w w' : World} {p : Addr} {o : OpR} (h : OpAt w p o) (hb : Below B w w') (hp : p.block < B) : OpAt w' p o := by
  have hq : ∀ j, (p.add j).block = p.block := by intro j; unfold Addr.add; split <;> rfl
  exact ⟨(hb.cell hp).trans h.k, (hb.cell (by rw [hq]; exact hp)).trans h.a, (hb.cell (by rw [hq]; exact hp)).trans h.n, (hb.cell (by rw [hq]; exact hp)).trans h.s, (hb.cell (by rw [hq]; exact hp)).trans h.m, h.ok⟩
theorem Script.below {w w' : World} {sl : Value} {l : List OpR} (h : Script w sl l) (hb : Below w.heap.size w w') : Script w' sl l := by
  obtain ⟨ao, cap, h1, h2, h3⟩ := h
  exact ⟨ao, cap, h1, h2, fun i o hi => by obtain ⟨a, e, ha⟩ := h3 i o hi; exact ⟨a, e, ha.below hb ha.lt⟩⟩
end Go.Proofs.YtgcbmjflodgnbaaGreatDoor
namespace Go.Proofs.YtgcbmjflodgnbaaGreatDoor
set_option maxRecDepth 100000
open Go Go.RowKit Go.ChangeShapes Go.WideShapes Go.Deep
set_option linter.unusedVariables false

end Go.Proofs.YtgcbmjflodgnbaaGreatDoor
