/- The curve's laws: the sum of two numbers of 32 bytes; numbers modulo the order. -/
import Derived.Test.YtpgichfagodkpaaCurveH
import Derived.Test.YtpgichfagodkpaaCurveO
import Derived.Test.YtpgichfagodkpaaScalarRefC
namespace Go.Proofs.Ytpgichfagodkpaa.Fe
set_option linter.unusedVariables false
open Go Go.RowKit

theorem num_at (s : ByteArray) (k : Nat) (h : k < s.size) : s[k].toNat = Go.Proofs.Ytpgichfagodkpaa.num s / 256 ^ k % 256 := by
  refine (leNat_at s.data.toList k s[k] ?_).symm
  rw [List.getElem?_eq_getElem (by simpa using h)]; rfl
/-- What is over behind k bytes. -/
def cyC (A B k : Nat) : Nat := (A % 256 ^ k + B % 256 ^ k) / 256 ^ k
theorem cyC_zero (A B : Nat) : cyC A B 0 = 0 := by unfold cyC; simp [Nat.mod_one]
theorem cyC_le (A B k : Nat) : cyC A B k ≤ 1 := by
  have hM : 0 < 256 ^ k := Nat.pow_pos (by omega)
  have h1 := Nat.mod_lt A hM; have h2 := Nat.mod_lt B hM
  unfold cyC
  have : (A % 256 ^ k + B % 256 ^ k) / 256 ^ k < 2 := by rw [Nat.div_lt_iff_lt_mul hM]; omega
  omega
theorem cyC_step (A B k : Nat) : cyC A B (k + 1) = (A / 256 ^ k % 256 + B / 256 ^ k % 256 + cyC A B k) / 256 := by
  have hM : 0 < 256 ^ k := Nat.pow_pos (by omega)
  unfold cyC
  rw [Nat.pow_succ, Nat.mod_mul, Nat.mod_mul, ← Nat.div_div_eq_div_mul]
  congr 1
  rw [show A % 256 ^ k + 256 ^ k * (A / 256 ^ k % 256) + (B % 256 ^ k + 256 ^ k * (B / 256 ^ k % 256)) = A % 256 ^ k + B % 256 ^ k + 256 ^ k * (A / 256 ^ k % 256 + B / 256 ^ k % 256) by rw [Nat.mul_add]; omega, Nat.add_mul_div_left _ _ hM]
  omega
theorem cyC_digit (A B k : Nat) : (A + B) / 256 ^ k % 256 = (A / 256 ^ k % 256 + B / 256 ^ k % 256 + cyC A B k) % 256 := by
  have hM : 0 < 256 ^ k := Nat.pow_pos (by omega)
  have e : (A + B) / 256 ^ k = A / 256 ^ k + B / 256 ^ k + cyC A B k := by
    unfold cyC
    have h1 := Nat.div_add_mod A (256 ^ k); have h2 := Nat.div_add_mod B (256 ^ k)
    have : A + B = A % 256 ^ k + B % 256 ^ k + 256 ^ k * (A / 256 ^ k + B / 256 ^ k) := by rw [Nat.mul_add]; omega
    rw [this, Nat.add_mul_div_left _ _ hM]; omega
  rw [e]; omega
theorem cyC_all {A B : Nat} (hA : A < 256 ^ 32) (hB : B < 256 ^ 32) : cyC A B 32 = (A + B) / 256 ^ 32 := by
  unfold cyC; rw [Nat.mod_eq_of_lt hA, Nat.mod_eq_of_lt hB]
set_option maxRecDepth 100000 in
set_option maxHeartbeats 2000000 in
theorem lsum_any (a b : ByteArray) (ha : a.size = 32) (hb : b.size = 32) (w : World) :
    Calls Try.prog 28 #[.string a, .string b] w fun e w' => e = .returned (.tuple #[.string (sbytes (Go.Proofs.Ytpgichfagodkpaa.num a + Go.Proofs.Ytpgichfagodkpaa.num b)), .bool ((((Go.Proofs.Ytpgichfagodkpaa.num a + Go.Proofs.Ytpgichfagodkpaa.num b) / 256 ^ 32 : Nat) : Int) == 0)]) ∧ Gr w w' := by
  have hmk : ∀ w, (Instr.makeSlice 31 (.int .i64 32) (.int .i64 32)).run Try.prog w = .ok (.slice (some ⟨w.heap.size, 0, none⟩) 32 32) (w.alloc (.cells (bcells 0 0 32) 5)) := fun _ => by kernel_rfl
  obtain ⟨A, hA⟩ : ∃ A, A = Go.Proofs.Ytpgichfagodkpaa.num a := ⟨_, rfl⟩
  obtain ⟨B, hB⟩ : ∃ B, B = Go.Proofs.Ytpgichfagodkpaa.num b := ⟨_, rfl⟩
  have NA := Box.mk (fun (k : Nat) (h : k < a.size) => hA ▸ num_at a k h)
  have NB := Box.mk (fun (k : Nat) (h : k < b.size) => hB ▸ num_at b k h)
  have CA := Box.mk (cyC_all (A := A) (B := B) (hA ▸ num_lt32 ha) (hB ▸ num_lt32 hb))
  rw [← hA, ← hB]
  have HA := Box.mk ha; have HB := Box.mk hb
  obtain ⟨W1, hW1⟩ : ∃ W, W = w.alloc (.cells (bcells 0 0 32) 5) := ⟨_, rfl⟩
  have g1 : W1.heap[w.heap.size]? = some (.cells (bcells (A + B) 0 32) 5 (0, 0)) := by rw [hW1, heap_alloc_new]; simp [bcells]
  have G1 := Box.mk g1; have B0 := Box.mk (show Gr w W1 from by rw [hW1]; exact Gr.alloc _ _)
  have hm1 := hmk w
  rw [← hW1] at hm1
  clear hA hB ha hb g1 hW1 hmk
  go_enter Try.func28, Try.ntmps28
  go_wp2_with fail
  clear hm1
  go_loopw [7, 8] (fun v i wr => ∃ k : Nat, k ≤ 32 ∧ i = .int .i64 k ∧ v = .int .i64 (cyC A B k : Nat) ∧ wr.heap[w.heap.size]? = some (.cells (bcells (A + B) k 32) 5 (0, 0)) ∧ Gr w wr) (fun _ i _ => 32 - (intOf i).toNat)
  case atStart => exact ⟨0, by omega, rfl, by rw [cyC_zero]; rfl, G1.out, B0.out⟩
  case round =>
    clear G1 B0
    obtain ⟨k, hk, rfl, rfl, hrow, hb3⟩ := hrel
    have HROW := Box.mk hrow; have HB3 := Box.mk hb3
    by_cases hlt : k < 32
    · have hka : k < a.size := by have := HA.out; omega
      have hkb : k < b.size := by have := HB.out; omega
      have hkaI : (k : Int) < (a.size : Int) := by omega
      have hkbI : (k : Int) < (b.size : Int) := by omega
      have hkI : (k : Int) < 32 := by omega
      have e1 := NA.out k hka; have e2 := NB.out k hkb
      have l1 := a[k].toNat_lt; have l2 := b[k].toNat_lt
      have l3 := cyC_le A B k
      have st := cyC_step A B k; have dg' := cyC_digit A B k
      rw [← e1, ← e2] at st dg'
      obtain ⟨x, hx⟩ : ∃ x, x = a[k].toNat := ⟨_, rfl⟩
      obtain ⟨y, hy⟩ : ∃ y, y = b[k].toNat := ⟨_, rfl⟩
      have hxI : ((a[k].toNat : Nat) : Int) = (x : Int) := by rw [hx]
      have hyI : ((b[k].toNat : Nat) : Int) = (y : Int) := by rw [hy]
      obtain ⟨c, hc⟩ : ∃ c, c = cyC A B k := ⟨_, rfl⟩
      rw [← hx, ← hy, ← hc] at st dg'
      have ST := Box.mk st; have DG := Box.mk dg'
      rw [← hc] at l3 ⊢
      have hxl : x < 256 := by omega
      have hyl : y < 256 := by omega
      have c2 : wr.cell? ⟨w.heap.size, k, none⟩ = some (.int .u8 ((if k < k then (A + B) / 256 ^ k % 256 else 0 : Nat) : Int)) := by
        rw [cell_of_row _ _ _ _ _ _ hrow]; simp [bcells, hlt]
      have f2 : wr.frozen? ⟨w.heap.size, k, none⟩ = false := frozen_of_row _ _ _ _ _ hrow
      obtain ⟨d, hd⟩ : ∃ d, d = (x + y + c) % 256 := ⟨_, rfl⟩
      obtain ⟨c', hc'⟩ : ∃ c', c' = (x + y + c) / 256 := ⟨_, rfl⟩
      have hwr : IntKind.u8.wrap ((x : Int) + (y : Int) + (c : Int)) = (d : Int) := by rw [IntKind.wrap_u8]; omega
      have hdv : ((x : Int) + (y : Int) + (c : Int)) / 256 = (c' : Int) := by omega
      have HD := Box.mk hd; have HC := Box.mk hc'
      clear e1 e2 l1 l2 st dg' hx hy hc hrow hb3 hlt hd hc'
      go_wp2
      go_region
      go_wp2
      refine ⟨⟨k + 1, by omega, by go_num, ?_, ?_, (HB3.out.setCell (p := ⟨w.heap.size, k, none⟩) (Nat.le_refl _) _).drew⟩, by simp [intOf]; omega⟩
      · rw [hdv, ST.out, HC.out]
      · rw [heap_drew, heap_setCell_same _ _ _ _ _ _ HROW.out, HD.out, ← DG.out, bcells_step]
    · obtain rfl : k = 32 := by omega
      rw [bcells_all] at hrow
      have hcv := run_bytes_of_row Try.prog wr w.heap.size 32 _ _ 31 9 5 32 (leList_length _ _) Try.underlying31 Try.underlying5 Try.underlying9 hrow
      rw [CA.out]
      obtain ⟨o, ho⟩ : ∃ o, o = (A + B) / 256 ^ 32 := ⟨_, rfl⟩
      rw [← ho]
      have HO := Box.mk ho
      clear hrow hb3 HROW ho
      go_wp2
      go_ret2
      refine ⟨?_, HB3.out⟩
      rw [HO.out]; rfl
theorem oL_ordL : oL = ordL := by unfold ordL; exact oL_eq
theorem dg1 (v : Nat) (hv : v < 256) : digit v 0 = (v : Int) := by rw [digit_eq, Nat.pow_zero, Nat.div_one, Nat.mod_eq_of_lt hv]
/-- Mod of one digit. -/
theorem mod1 (v : Nat) (hv : v < 256) (b cap : Nat) (w : World) (hb : w.cell? ⟨b, 0, none⟩ = some (.int .i64 (v : Int))) (hl : b < w.heap.size) :
    Calls Try.prog 23 #[.slice (some ⟨b, 0, none⟩) 1 cap] w fun e w' => e = .returned (.string (sc v)) ∧ Gr w w' :=
  (refMod_any v 1 b cap w (by unfold In256; omega) (by omega) (fun j hj => by
    obtain rfl : j = 0 := by omega
    rw [dg1 v hv]; exact hb) hl).mono fun _ _ h => h
theorem sc_small (v : Nat) (hv : v < 256) : num (sc v) = v := by
  rw [num_sc]; exact Nat.mod_eq_of_lt (by unfold ordL; omega)
section
variable {P : Program} {W : World} {S : List Nat} {T : (World → Prop) → List Nat → Act → Prop} {L : List (Oper × Kd)} {F : World → Prop} {N : List Nat} {a : Act} {o : Oper}
/-- A conversion that reads a block that stood. -/
theorem gm_convS {src dst : TypeId} (x : Operand) (ho : o.op = .convert src dst x) (v : Value) (hr : ∀ w, GrS S W w → (convert src dst (a.eval x)).run P w = .ok v w)
    (h : wpG P W S T L F N (a.put o.dst v)) : wpG P W S T ((o, .flo) :: L) F N a :=
  gm_flo v (fun w hw => by unfold execOp; simp only [ho, Sem.run_bind, hr w hw, Result.andThen_ok, Sem.run_pure]) h
end
theorem cell_same {w w' : World} {b : Nat} (h : w'.heap[b]? = w.heap[b]?) (j : Nat) : w'.cell? ⟨b, j, none⟩ = w.cell? ⟨b, j, none⟩ := by simp [World.cell?, h]
theorem order_str (w : World) (b : Nat) (h : w.heap[b]? = some (.cells (bcells ordL 32 32) 5 (0, 0))) : (convert 31 9 (.slice (some ⟨b, 0, none⟩) 32 32)).run Try.prog w = .ok (.string (sbytes ordL)) w :=
  run_bytes_of_row Try.prog w b 32 _ _ 31 9 5 32 (leList_length 32 ordL) Try.underlying31 Try.underlying5 Try.underlying9 (by rw [← bcells_all]; exact h)
theorem num_order : Go.Proofs.Ytpgichfagodkpaa.num (sbytes ordL) = oL := by rw [num_sbytes, Nat.mod_eq_of_lt ordL_lt, oL_ordL]
end Go.Proofs.Ytpgichfagodkpaa.Fe
