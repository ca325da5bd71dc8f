/- Whatever two strings come in, the call of ScalarWide returns true and leaves its arguments as they were. No condition. -/
import Derived.Test.YtilehlgnkfjcpaaScalarM
import Derived.ProofKit
import Derived.OpenShut
import Derived.ShutString
import Derived.ChangeOld
namespace Go.Proofs.Ytilehlgnkfjcpaa.scalarWide
open Go Go.RowKit Go.ChangeShapes Go.WideShapes Go.ChangeAt
open Go.ChangeMaps (open_string shut_string)
set_option linter.unusedVariables false

theorem num_append (a b : ByteArray) : num (a ++ b) = num a + 256 ^ a.size * num b := by
  have h := leNat_append a.data.toList b.data.toList
  unfold num
  rw [show (a ++ b).data.toList = a.data.toList ++ b.data.toList from by simp [ByteArray.data_append], h]; simp
def shiftS : ByteArray := ⟨(leList 33 (256 ^ 32)).toArray⟩
theorem num_shift : num shiftS = 256 ^ 32 := by
  have := leNat_leList 33 (256 ^ 32)
  show leNat (leList 33 (256 ^ 32)) = _
  rw [this]
theorem shift_row : #[.int .u8 0, .int .u8 0, .int .u8 0, .int .u8 0, .int .u8 0, .int .u8 0, .int .u8 0, .int .u8 0, .int .u8 0, .int .u8 0, .int .u8 0, .int .u8 0, .int .u8 0, .int .u8 0, .int .u8 0, .int .u8 0, .int .u8 0, .int .u8 0, .int .u8 0, .int .u8 0, .int .u8 0, .int .u8 0, .int .u8 0, .int .u8 0, .int .u8 0, .int .u8 0, .int .u8 0, .int .u8 0, .int .u8 0, .int .u8 0, .int .u8 0, .int .u8 0, Value.int .u8 1] = ((leList 33 (256 ^ 32)).map fun u => Value.int .u8 (u.toNat : Int)).toArray := by
  simp [leList]
theorem wide_eq {a b : ByteArray} {low high s x : Nat} (ha : a.size = 32) (hl : low = num a % ordL) (hh : high = num b % ordL) (hs : s = 256 ^ 32 % ordL) (hx : x = high * s % ordL) :
    (num a + 256 ^ a.size * num b) % ordL = (low + x) % ordL := by
  rw [hl, hx, hh, hs, ha, Nat.mod_add_mod, Nat.add_mod_mod, Nat.add_mod (num a), Nat.mul_comm (256 ^ 32), Nat.mul_mod]
  exact (Nat.add_mod _ _ _).symm
set_option maxRecDepth 100000 in
set_option maxHeartbeats 2000000 in
theorem walk (a : ByteArray) (wa : a.size ≤ maxLen) (b : ByteArray) (wb : b.size ≤ maxLen) (w : World) :
    Calls Try.prog 7 #[.string a, .string b] w fun e w' => e = .returned (.bool true) ∧ Below w.heap.size w w' := by
  clear wa wb
  by_cases ha : a.size = 32
  · by_cases hb : b.size ≤ 32
    · have ha' : ((a.size : Int) != 32) = false := by simp; omega
      have hb' : ¬ (32 : Int) < (b.size : Int) := by omega
      have hcat : a.size + b.size ≤ 9223372036854775807 := by omega
      have hmk : ∀ w, (Instr.makeSlice 31 (.int .i64 33) (.int .i64 33)).run Try.prog w = .ok (.slice (some ⟨w.heap.size, 0, none⟩) 33 33) (w.alloc (.cells #[.int .u8 0, .int .u8 0, .int .u8 0, .int .u8 0, .int .u8 0, .int .u8 0, .int .u8 0, .int .u8 0, .int .u8 0, .int .u8 0, .int .u8 0, .int .u8 0, .int .u8 0, .int .u8 0, .int .u8 0, .int .u8 0, .int .u8 0, .int .u8 0, .int .u8 0, .int .u8 0, .int .u8 0, .int .u8 0, .int .u8 0, .int .u8 0, .int .u8 0, .int .u8 0, .int .u8 0, .int .u8 0, .int .u8 0, .int .u8 0, .int .u8 0, .int .u8 0, .int .u8 0] 5)) := fun _ => by kernel_rfl
      have hcv : ∀ (w : World), (convert 31 9 (.slice (some ⟨w.heap.size, 0, none⟩) 33 33)).run Try.prog (w.alloc (.cells #[.int .u8 0, .int .u8 0, .int .u8 0, .int .u8 0, .int .u8 0, .int .u8 0, .int .u8 0, .int .u8 0, .int .u8 0, .int .u8 0, .int .u8 0, .int .u8 0, .int .u8 0, .int .u8 0, .int .u8 0, .int .u8 0, .int .u8 0, .int .u8 0, .int .u8 0, .int .u8 0, .int .u8 0, .int .u8 0, .int .u8 0, .int .u8 0, .int .u8 0, .int .u8 0, .int .u8 0, .int .u8 0, .int .u8 0, .int .u8 0, .int .u8 0, .int .u8 0, .int .u8 1] 5)) = .ok (.string shiftS) (w.alloc (.cells #[.int .u8 0, .int .u8 0, .int .u8 0, .int .u8 0, .int .u8 0, .int .u8 0, .int .u8 0, .int .u8 0, .int .u8 0, .int .u8 0, .int .u8 0, .int .u8 0, .int .u8 0, .int .u8 0, .int .u8 0, .int .u8 0, .int .u8 0, .int .u8 0, .int .u8 0, .int .u8 0, .int .u8 0, .int .u8 0, .int .u8 0, .int .u8 0, .int .u8 0, .int .u8 0, .int .u8 0, .int .u8 0, .int .u8 0, .int .u8 0, .int .u8 0, .int .u8 0, .int .u8 1] 5)) := fun w =>
        run_bytes_of_row Try.prog _ w.heap.size 33 _ 5 31 9 5 33 (leList_length _ _) Try.underlying31 Try.underlying5 Try.underlying9 (by rw [heap_alloc_new, shift_row])
      have HS33 : Box (shiftS.size ≤ 64) := ⟨by decide⟩
      have hsz : Box ((a ++ b).size ≤ 64) := ⟨by simp [ByteArray.size_append]; omega⟩
      have HA := Box.mk ha; have HB := Box.mk hb; clear ha hb
      go_enter Try.func7, Try.ntmps7
      go_wp2_with fail
      refine (reduce_ok (a ++ b) hsz.out _).mono ?_
      rintro e w1 ⟨ALL, HALL, rfl, k1⟩
      have h1 := k1; clear k1
      go_wp2_with fail
      refine (reduce_ok a (by rw [HA.out]; omega) _).mono ?_
      rintro e w2 ⟨LOW, HLOW, rfl, k2⟩
      have h2 := bthen h1 k2; clear h1 k2
      go_wp2_with fail
      refine (reduce_ok b (by have := HB.out; omega) _).mono ?_
      rintro e w3 ⟨HIGH, HHIGH, rfl, k3⟩
      have h3 := bthen h2 k3; clear h2 k3
      go_wp2_with fail
      refine (reduce_ok shiftS HS33.out _).mono ?_
      rintro e w4 ⟨S, HS, rfl, k4⟩
      have h4 := bthen (h3.alloc h3.size _) k4; clear h3 k4
      go_wp2_with fail
      refine (mul_ok HIGH S (by rw [HHIGH.out, sc_size]) (by rw [HS.out, sc_size]) _).mono ?_
      rintro e w5 ⟨X, HX, rfl, k5⟩
      have h5 := bthen h4 k5; clear h4 k5
      go_wp2_with fail
      refine (add_ok LOW X (by rw [HLOW.out, sc_size]) (by rw [HX.out, sc_size]) _).mono ?_
      rintro e w6 ⟨Y, HY, rfl, k6⟩
      have h6 := bthen h5 k6; clear h5 k6
      have q1 : (ALL.toList == Y.toList) = true := eqT (by
        rw [HALL.out, HY.out, num_append]
        exact sc_congr (wide_eq HA.out (low := num LOW) (high := num HIGH) (s := num S) (x := num X) (by rw [HLOW.out, num_sc]) (by rw [HHIGH.out, num_sc]) (by rw [HS.out, num_sc, num_shift]) (by rw [HX.out, num_sc])))
      go_wp2_with fail
      refine (fixed_any _).mono ?_
      rintro e w7 ⟨rfl, k7⟩
      have h7 := bthen h6 k7; clear h6 k7
      go_wp2
      go_ret
      exact ⟨rfl, h7⟩
    · have ha' : ((a.size : Int) != 32) = false := by simp; omega
      have hb' : (32 : Int) < (b.size : Int) := by omega
      clear ha hb
      go_enter Try.func7, Try.ntmps7
      go_wp2_with fail
      refine (fixed_any _).mono ?_
      rintro e w1 ⟨rfl, k1⟩
      have h1 := k1; clear k1
      go_wp2
      go_ret
      exact ⟨rfl, h1⟩
  · have ha' : ((a.size : Int) != 32) = true := by simp; omega
    clear ha
    go_enter Try.func7, Try.ntmps7
    go_wp2_with fail
    refine (fixed_any _).mono ?_
    rintro e w1 ⟨rfl, k1⟩
    have h1 := k1; clear k1
    go_wp2
    go_ret
    exact ⟨rfl, h1⟩
theorem own : ownKnob Try.prog.godebug = none := by kernel_rfl
theorem laidOut : laidOutB Try.prog = true := by kernel_rfl
set_option maxRecDepth 100000 in
theorem lifted (os : Os) (started : os.Started) (H : Type) (enc : TypeId × Value → H) :
    ReturnsInHanded {} Try.checked os 7 .any (Rows.scalarWideSpec.pre6 enc Try.prog Try.f7 Rows.scalarWideRow.domain false) (Rows.scalarWideSpec.post enc Try.prog Try.f7 false true false false) := by
  refine returnsInHanded_of_change (C := Try.checked) own started (by kernel_rfl) Try.func7
    (ChangeSpec.witness6 (enc := enc) (C := Try.checked) false ⟨#[], #[.string ⟨#[]⟩, .string ⟨#[]⟩], []⟩ 8 (by kernel_rfl) (by kernel_rfl) (by kernel_rfl) (by kernel_rfl)) ?_
  intro W base args ds gs before hval0 hW hcnd _
  have hval : ∀ (j : Nat) t v, Try.f7.params[j]? = some t → args[j]? = some v → Value.okWide Try.prog W .any base t v := hval0
  have hW' := hW
  obtain ⟨p, q, hA0, hV, rfl, hfz, hnd⟩ := hW
  have hA : DataW.TrodAll enc Try.prog W 0 (fun _ => true) true Try.f7.params.toList args.toList ds p := hA0
  rw [Try.params7] at hA hval
  obtain ⟨v0, vs0, d0, ds0, p0, q0, hargs, rfl, rfl, h0, r0⟩ := trodAll_cons hA
  obtain ⟨v1, vs1, d1, ds1, p1, q1, rfl, rfl, rfl, h1, r1⟩ := trodAll_cons r0
  obtain ⟨rfl, rfl, rfl⟩ := trodAll_nil r1
  obtain rfl : args = #[v0, v1] := by cases args; simp_all
  obtain ⟨rfl, rfl⟩ := trodVars_none hV
  obtain ⟨s0, rfl, rfl, rfl, ws0⟩ := open_string Try.underlying9 (hval 0 9 v0 rfl rfl) h0
  obtain ⟨s1, rfl, rfl, rfl, ws1⟩ := open_string Try.underlying9 (hval 1 9 v1 rfl rfl) h1
  clear hA0 hval0
  refine (walk s0 ws0 s1 ws1 W).mono fun e W' ⟨he, bel⟩ => ?_
  subst he
  exact ⟨_, rfl, _, _, _, [], _, [], hW', trodAll_mk1 (shut_bool Try.underlying4 _), (trodAll_cons_mk (shut_string Try.underlying9 ws0) (trodAll_cons_mk (shut_string Try.underlying9 ws1) trodAll_mk0)), rfl, bel.frame _, fun h => by cases h⟩

theorem proved : Rows.ScalarWideSaid :=
  OpenClaim.holds_of_wide 7 Try.f7 rfl rfl rfl rfl rfl rfl rfl ⟨rfl, rfl, rfl, rfl, rfl⟩ rfl rfl rfl rfl rfl (by kernel_rfl) Try.func7 (by kernel_rfl)
    (of_decide_eq_true (by kernel_rfl)) (by unfold Func.isWrapper; first | (rw [if_pos (by decide +kernel)]; kernel_rfl) | (rw [if_neg (by decide +kernel)]; exact ⟨rfl, rfl⟩))
    (fun os started H enc _ => lifted os started H enc)
#print axioms proved
end Go.Proofs.Ytilehlgnkfjcpaa.scalarWide
