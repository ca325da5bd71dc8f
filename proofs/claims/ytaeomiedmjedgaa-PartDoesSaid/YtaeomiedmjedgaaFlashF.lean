/- The flash: bytes.Repeat at one byte. -/
import Derived.Test.YtaeomiedmjedgaaFlashE
import Derived.Lib.MakeNoZero
import Derived.Laws.CopyOwn
import Derived.Laws.Externs
import Derived.Shelf.Bits.Mul64
namespace Go.Proofs.Ytaeomiedmjedgaa
set_option linter.unusedVariables false
open Go Go.RowKit

theorem mul64_any (x y : Nat) (hx : x < 18446744073709551616) (hy : y < 18446744073709551616) (w : World) :
    Calls Try.prog 64 #[.int .u64 x, .int .u64 y] w fun e w' => e = .returned (.tuple #[.int .u64 ((x * y / 18446744073709551616 : Nat) : Int), .int .u64 ((x * y % 18446744073709551616 : Nat) : Int)]) ∧ w' = w := by
  obtain ⟨bd, bt, bw, hhi⟩ := Lib.mul64_hi x y hx hy
  have ba := Lib.half_mul_le (a := x / 4294967296) (b := y / 4294967296) (by omega) (by omega)
  have bb := Lib.half_mul_le (a := x / 4294967296) (b := y % 4294967296) (by omega) (by omega)
  have bc := Lib.half_mul_le (a := x % 4294967296) (b := y / 4294967296) (by omega) (by omega)
  have b1 : x / 4294967296 * (y / 4294967296) < 18446744073709551616 := by omega
  have b2 : x / 4294967296 * (y % 4294967296) < 18446744073709551616 := by omega
  have b3 : x % 4294967296 * (y / 4294967296) < 18446744073709551616 := by omega
  have b4 : x / 4294967296 * (y / 4294967296) + (x / 4294967296 * (y % 4294967296) + x % 4294967296 * (y % 4294967296) / 4294967296) / 4294967296 < 18446744073709551616 := by omega
  have b5 : x / 4294967296 * (y / 4294967296) + (x / 4294967296 * (y % 4294967296) + x % 4294967296 * (y % 4294967296) / 4294967296) / 4294967296 + ((x / 4294967296 * (y % 4294967296) + x % 4294967296 * (y % 4294967296) / 4294967296) % 4294967296 + x % 4294967296 * (y / 4294967296)) / 4294967296 < 18446744073709551616 := by omega
  go_enter Try.func64, Try.ntmps64
  go_wp2
  simp only [Mul64.maskN x hx, Mul64.maskN y hy, Mul64.divN, Mul64.mulN, Mul64.addN, Mul64.wrapN _ bd, Mul64.wrapN _ b2, Mul64.wrapN _ bt, Mul64.maskN _ bt, Mul64.wrapN _ b3, Mul64.wrapN _ bw, Mul64.wrapN _ b1, Mul64.wrapN _ b4, Mul64.wrapN _ b5, Mul64.wrapM (x * y)]
  rw [hhi]
  go_ret2
  exact ⟨rfl, rfl⟩

theorem mul_one (y : Nat) (hy : y < 18446744073709551616) (w : World) :
    Calls Try.prog 56 #[.int .u64 1, .int .u64 y] w fun e w' => e = .returned (.tuple #[.int .u64 0, .int .u64 y]) ∧ w' = w := by
  have e1 : ((1 * y / 18446744073709551616 : Nat) : Int) = 0 := by omega
  have e2 : ((1 * y % 18446744073709551616 : Nat) : Int) = y := by omega
  have h := mul64_any 1 y (by omega) hy
  rw [e1, e2] at h
  go_enter Try.func56, Try.ntmps56
  go_wp2_with fail
  refine (h _).mono ?_
  rintro e w1 ⟨rfl, rfl⟩
  go_wp2
  go_ret2
  exact ⟨rfl, rfl⟩

theorem nozero_any (n : Nat) (hn : n ≤ 281474976710656) (w : World) :
    ∃ cs : Array Value, (callFunc 57 #[.int .i64 n]).run Try.prog w = .ok (.value (.slice (some ⟨w.heap.size, 0, none⟩) n cs.size)) (w.drew.drew.alloc (.cells cs 5)) ∧ n ≤ cs.size := by
  obtain ⟨cs, h, hc, _⟩ := Lib.run_makeNoZero (P := Try.prog) w #[] 52 5 Try.underlying52 n hn
  refine ⟨cs, ?_, hc⟩
  rw [run_callFunc_extern (e := Extern.BytealgMakeNoZero.makeNoZero #[] #[52]) Try.func57 (by kernel_rfl) (by kernel_rfl) (by kernel_rfl) (by kernel_rfl), h]
  rfl

/-- What holds at the head of Repeat's loop. -/
structure RepSt (w : World) (g C : Nat) (k : Nat) (wr : World) : Prop where
  row : ∃ L : List Value, wr.heap[g]? = some (.cells (List.replicate k (bval 255) ++ L).toArray 5 (0, 0)) ∧ k + L.length = C
  below : Below w.heap.size w wr

theorem repeat_first (p n : Nat) (w : World) (cs : Array Value) (hn : 1 ≤ n) (hcs : n ≤ cs.size) (hp : w.cell? ⟨p, 0, none⟩ = some (bval 255)) (hpl : p < w.heap.size) :
    ∃ W1, (Builtin.copy_ #[52, 52] 3 #[.slice (some ⟨w.heap.size, 0, none⟩) n n, .slice (some ⟨p, 0, none⟩) 1 1]).run Try.prog (w.alloc (.cells cs 5)).drew.drew = .ok (.int .i64 1) W1 ∧ RepSt w w.heap.size cs.size 1 W1 := by
  have hg : (w.alloc (.cells cs 5)).drew.drew.heap[w.heap.size]? = some (.cells cs 5 (0, 0)) := heap_alloc_new _ _
  have h := run_copy_row (P := Try.prog) (w.alloc (.cells cs 5)).drew.drew 52 52 3 5 w.heap.size 0 n n ⟨p, 0, none⟩ 1 1 cs 5 [bval 255] Try.underlying52 (by kernel_rfl) hg (by simp [Nat.min_def]; omega) (by
      intro j v hj
      rcases j with _ | j
      · simp at hj; subst hj
        have hb : Below w.heap.size w (w.alloc (.cells cs 5)).drew.drew := by go_grown
        have := hb.cell (p := ⟨p, 0, none⟩) hpl
        show (w.alloc (.cells cs 5)).drew.drew.cell? ⟨p, 0, none⟩ = _
        rw [this]; exact hp
      · simp at hj) (by simp; omega) (by simp [bval]; rfl)
  refine ⟨_, h, ⟨(cs.toList.drop 1), ?_, ?_⟩, ?_⟩
  · rw [setRow_heap _ _ _ _ _ _ hg]; simp
  · simp; omega
  · exact below_setRow (by go_grown) (Nat.le_refl _) _

theorem RepSt.src {w wr : World} {g C k : Nat} (h : RepSt w g C k wr) (m : Nat) (hm : m ≤ k) (j : Nat) (v : Value) (hj : (List.replicate m (bval 255))[j]? = some v) : wr.cell? ((⟨g, 0, none⟩ : Addr).add j) = some v := by
  obtain ⟨L, hL, _⟩ := h.row
  rw [List.getElem?_replicate] at hj
  split at hj
  · rename_i hjm
    have e : (⟨g, 0, none⟩ : Addr).add j = ⟨g, j, none⟩ := by unfold Addr.add; split <;> simp_all
    rw [e, cell_of_row _ _ _ _ _ _ hL]
    simp only [List.getElem?_toArray]
    rw [List.getElem?_append_left (by simp; omega), List.getElem?_replicate, if_pos (by omega)]
    exact hj
  · cases hj
theorem RepSt.next {w : World} {g C k m : Nat} (L : List Value) (hl : k + L.length = C) (hm : k + m ≤ C) {wr : World} (hb : Below w.heap.size w wr)
    (h : wr.heap[g]? = some (.cells (splice (List.replicate k (bval 255) ++ L) k (List.replicate m (bval 255))).toArray 5 (0, 0))) : RepSt w g C (k + m) wr := by
  refine ⟨⟨L.drop m, ?_, by simp; omega⟩, hb⟩
  rw [h]
  congr 3
  simp only [splice]
  rw [List.take_left' (by simp), ← List.append_assoc, List.length_replicate, List.drop_append, List.drop_eq_nil_of_le (by simp)]
  simp

theorem wrap_small (k m : Nat) (h : k + m ≤ 9223372036854775807) : IntKind.i64.wrap ((k : Int) + (m : Int)) = ((k + m : Nat) : Int) := by
  rw [IntKind.wrap_i64]; omega
set_option maxHeartbeats 1000000 in
theorem repeat_any (p n : Nat) (w : World) (hn : 1 ≤ n) (hn2 : n ≤ 1000000) (hp : w.cell? ⟨p, 0, none⟩ = some (bval 255)) (hpl : p < w.heap.size) :
    Calls Try.prog 42 #[.slice (some ⟨p, 0, none⟩) 1 1, .int .i64 n] w fun e w' => ∃ g, w.heap.size ≤ g ∧ e = .returned (.slice (some ⟨g, 0, none⟩) n n) ∧ BRow w' g (List.replicate n 255) ∧ Below w.heap.size w w' := by
  have hm := fun w => mul_one n (by omega) w
  obtain ⟨cs, hmk, hcs⟩ := nozero_any n (by omega) w
  obtain ⟨W1, hcopy, hst⟩ := repeat_first p n w cs hn hcs hp hpl
  have HM := Box.mk hm; clear hm
  have HST := Box.mk hst; clear hst
  have h0 : ((n : Int) == 0) = false := by rw [beq_eq_false_iff_ne]; omega
  have h1 : decide ((n : Int) < 0) = false := by simp
  go_enter Try.func42, Try.ntmps42
  go_wp2_with fail
  refine (HM.out _).mono ?_
  rintro e w1 ⟨rfl, rfl⟩
  have h2 : decide ((9223372036854775807 : Int) < (n : Int)) = false := by rw [decide_eq_false_iff_not]; omega
  go_wp2_with fail
  all_goals
    go_loopw [10] (fun i wr => ∃ k : Nat, 1 ≤ k ∧ k ≤ n ∧ i = .int .i64 k ∧ RepSt w1 w1.heap.size cs.size k wr) (fun i _ => n - (intOf i).toNat)
    case atStart => exact ⟨1, by omega, hn, rfl, HST.out⟩
    case round =>
      clear HST hcopy
      obtain ⟨k, hk1, hk, rfl, hs⟩ := hrel
      have HS := Box.mk hs; clear hs
      by_cases hlt : k < n
      · have hltI : (k : Int) < (n : Int) := by omega
        have hkn : (k : Int) ≤ (n : Int) := by omega
        go_wp2_with fail
        all_goals
          obtain ⟨L, hL, hLl⟩ := HS.out.row
          have HR := Box.mk hL; clear hL
        all_goals first
        | have h8k : (8192 : Int) < (k : Int) := by assumption
          have h8n : (8192 : Int) ≤ (n : Int) := by omega
          obtain ⟨m, hm⟩ : ∃ m, m = min 8192 (n - k) := ⟨_, rfl⟩
          have S1 := Box.mk (HS.out.src m (by omega))
          have HM := Box.mk hm
          have hm1 : 1 ≤ m := by omega
          have hm2 : k + m ≤ n := by omega
          clear hm
          go_region_law (refine step_copy_splice rfl (.tmp 70) (.tmp 73) 52 52 rfl 5 Try.underlying52 (by kernel_rfl) (if n = k then some ⟨w1.heap.size, 0, none⟩ else some ⟨w1.heap.size, k, none⟩) (some ⟨w1.heap.size, 0, none⟩) (n - k) (n - k) 8192 n (by simp [Act.eval, Act.put]) (by simp [Act.eval, Act.put]) w1.heap.size k _ 5 HR.out (List.replicate m (bval 255)) (by rw [List.length_replicate]; exact HM.out) (fun _ => ⟨if_neg (by omega), _, rfl, S1.out⟩) (by rw [List.length_append, List.length_replicate, List.length_replicate]; omega) (by intro v hv; rw [List.eq_of_mem_replicate hv]; rfl) w1.heap.size w1 HS.out.below.drew (Nat.le_refl _) ?_; intro w4 hg4 hb4)
          have HG := Box.mk hg4.out; clear hg4
          have hwr : IntKind.i64.wrap ((k : Int) + (m : Int)) = ((k + m : Nat) : Int) := wrap_small _ _ (by omega)
          rw [hwr]
          go_wp2_with fail
          exact ⟨⟨k + m, by omega, by omega, by go_num, RepSt.next L hLl (by omega) hb4 HG.out⟩, by simp [intOf]; omega⟩
        | skip
          obtain ⟨m, hm⟩ : ∃ m, m = min k (n - k) := ⟨_, rfl⟩
          have S1 := Box.mk (HS.out.src m (by omega))
          have HM := Box.mk hm
          have hm1 : 1 ≤ m := by omega
          have hm2 : k + m ≤ n := by omega
          clear hm
          go_region_law (refine step_copy_splice rfl (.tmp 70) (.tmp 73) 52 52 rfl 5 Try.underlying52 (by kernel_rfl) (if n = k then some ⟨w1.heap.size, 0, none⟩ else some ⟨w1.heap.size, k, none⟩) (some ⟨w1.heap.size, 0, none⟩) (n - k) (n - k) k n (by simp [Act.eval, Act.put]) (by simp [Act.eval, Act.put]) w1.heap.size k _ 5 HR.out (List.replicate m (bval 255)) (by rw [List.length_replicate]; exact HM.out) (fun _ => ⟨if_neg (by omega), _, rfl, S1.out⟩) (by rw [List.length_append, List.length_replicate, List.length_replicate]; omega) (by intro v hv; rw [List.eq_of_mem_replicate hv]; rfl) w1.heap.size w1 HS.out.below.drew (Nat.le_refl _) ?_; intro w4 hg4 hb4)
          have HG := Box.mk hg4.out; clear hg4
          have hwr : IntKind.i64.wrap ((k : Int) + (m : Int)) = ((k + m : Nat) : Int) := wrap_small _ _ (by omega)
          rw [hwr]
          go_wp2_with fail
          exact ⟨⟨k + m, by omega, by omega, by go_num, RepSt.next L hLl (by omega) hb4 HG.out⟩, by simp [intOf]; omega⟩
      · obtain rfl : k = n := by omega
        go_wp2
        go_ret
        obtain ⟨L, hL, _⟩ := HS.out.row
        exact ⟨_, Nat.le_refl _, rfl, ⟨L, (0, 0), by rw [hL]; simp, Or.inl rfl⟩, HS.out.below⟩
end Go.Proofs.Ytaeomiedmjedgaa
