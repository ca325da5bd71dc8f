/- The document of sha2: a number of five digits: grow, plus, less. -/
import Derived.Test.YtbjapmhfnegmeaaBigM
import Derived.Test.YtbjapmhfnegmeaaRows
import Derived.Test.YtbjapmhfnegmeaaMix
import Derived.Test.YtbjapmhfnegmeaaRow
namespace Go.Proofs.Ytbjapmhfnegmeaa.Big
set_option linter.unusedVariables false
open Go Go.RowKit

/-- The cells of a number. -/
def gcell (f : Nat → Nat) : Array Value := #[.int .u64 (f 0 : Nat), .int .u64 (f 1 : Nat), .int .u64 (f 2 : Nat), .int .u64 (f 3 : Nat), .int .u64 (f 4 : Nat)]
theorem gcell_get (f : Nat → Nat) (i : Nat) (hi : i < 5) : (gcell f)[i]? = some (.int .u64 (f i : Nat)) := by
  match i, hi with
  | 0, _ => rfl
  | 1, _ => rfl
  | 2, _ => rfl
  | 3, _ => rfl
  | 4, _ => rfl
/-- The first digits of one number, the others of another. -/
def mx (G v k : Nat) : Nat → Nat := fun j => if j < k then bd G j else bd v j
theorem mx_zero (G v : Nat) : mx G v 0 = bd v := by funext j; simp [mx]
theorem mx_step (G v k : Nat) (hk : k < 5) : (gcell (mx G v k)).setIfInBounds k (.int .u64 (bd G k : Nat)) = gcell (mx G v (k + 1)) := by
  match k, hk with
  | 0, _ => simp [gcell, mx]
  | 1, _ => simp [gcell, mx]
  | 2, _ => simp [gcell, mx]
  | 3, _ => simp [gcell, mx]
  | 4, _ => simp [gcell, mx]
theorem mx_all (G v : Nat) : gcell (mx G v 5) = gcell (bd G) := by simp [gcell, mx]
theorem gcell_mod (G : Nat) : gcell (bd (G % pw 5)) = gcell (bd G) := by
  simp only [gcell, bd_mod G _ (show 0 < 5 by omega), bd_mod G _ (show 1 < 5 by omega), bd_mod G _ (show 2 < 5 by omega), bd_mod G _ (show 3 < 5 by omega), bd_mod G _ (show 4 < 5 by omega)]
/-- A number lies in its block. -/
def BigAt (w : World) (p v : Nat) : Prop := w.heap[p]? = some (.cells (gcell (bd v)) 78 (0, 0))
set_option maxRecDepth 100000 in
set_option maxHeartbeats 2000000 in
theorem grow_any (p v t m : Nat) (w : World) (h : BigAt w p v) (ht : t ≤ 65536) (hm : m < 4294967296) :
    Calls Try.prog 35 #[.pointer (some ⟨p, 0, none⟩), .int .u64 (t : Nat), .int .u64 (m : Nat)] w fun e w' => e = .returned (.tuple #[]) ∧ BigAt w' p ((v * t + m) % pw 5) ∧ Upd [p] w w' := by
  obtain ⟨G, hG⟩ : ∃ G, G = v * t + m := ⟨_, rfl⟩
  have HG := Box.mk hG
  have hh : w.heap[p]? = some (.cells (gcell (mx G v 0)) 78 (0, 0)) := by rw [mx_zero]; exact h
  have H := Box.mk hh
  clear h hh hG
  go_enter Try.func35, Try.ntmps35
  go_wp2_with fail
  go_loopw [2, 6] (fun x i wr => ∃ k : Nat, k ≤ 5 ∧ i = .int .i64 k ∧ x = .int .u64 (cy v t 0 0 m k : Nat) ∧ wr.heap[p]? = some (.cells (gcell (mx G v k)) 78 (0, 0)) ∧ Upd [p] w wr) (fun _ i _ => 5 - (intOf i).toNat)
  case atStart => exact ⟨0, by omega, rfl, by rw [cy_zero], H.out, Upd.refl _ _⟩
  case round =>
    clear H
    obtain ⟨k, hk, rfl, rfl, hrow, hu⟩ := hrel
    have HR := Box.mk hrow; have HU := Box.mk hu
    by_cases hlt : k < 5
    · have hkI : (k : Int) < 5 := by omega
      have hc : wr.cell? ⟨p, k, none⟩ = some (.int .u64 (bd v k : Nat)) := by
        rw [cell_of_row _ _ _ _ _ _ hrow, gcell_get _ _ hlt]; simp [mx]
      have hf : wr.frozen? ⟨p, k, none⟩ = false := frozen_of_row _ _ _ _ _ hrow
      have hd := bd_lt v k
      have st := cy_step v t 0 0 m k; have dg := cy_digit v t 0 0 m k
      rw [Nat.mul_zero, Nat.add_zero] at st dg
      rw [Nat.mul_zero, Nat.add_zero, ← HG.out] at dg
      obtain ⟨c, hcc⟩ : ∃ c, c = cy v t 0 0 m k := ⟨_, rfl⟩
      have hcl : c < 281474976710656 := by
        rw [hcc]; unfold cy
        rw [Nat.mul_zero, Nat.add_zero]
        have h1 := Nat.mod_lt v (pw_pos k)
        have h2 : v % pw k * t ≤ pw k * 65536 := Nat.mul_le_mul (Nat.le_of_lt h1) ht
        have h3 := pw_pos k
        have h4 : m ≤ pw k * 4294967296 := Nat.le_trans (Nat.le_of_lt hm) (Nat.le_mul_of_pos_left _ h3)
        have h5 : (v % pw k * t + m) / pw k ≤ 4295032832 := by
          rw [Nat.div_le_iff_le_mul_add_pred h3]; omega
        omega
      rw [← hcc] at st dg ⊢
      obtain ⟨d, hdd⟩ : ∃ d, d = bd v k := ⟨_, rfl⟩
      rw [← hdd] at hc hd st dg
      have hdt : d * t ≤ 4294967296 * 65536 := Nat.mul_le_mul (Nat.le_of_lt hd) ht
      obtain ⟨e, he⟩ : ∃ e, e = d * t := ⟨_, rfl⟩
      rw [← he] at hdt st dg
      have hw1 : IntKind.u64.wrap ((d : Int) * (t : Int)) = (e : Int) := by rw [IntKind.wrap_u64, ← Int.natCast_mul, ← he]; omega
      obtain ⟨x, hx⟩ : ∃ x, x = c + e := ⟨_, rfl⟩
      have hw2 : IntKind.u64.wrap ((c : Int) + (e : Int)) = (x : Int) := by rw [IntKind.wrap_u64]; omega
      obtain ⟨r, hr⟩ : ∃ r, r = x % 4294967296 := ⟨_, rfl⟩
      obtain ⟨q, hq⟩ : ∃ q, q = x / 4294967296 := ⟨_, rfl⟩
      have hrI : (x : Int) % 4294967296 = (r : Int) := by omega
      have hqI : (x : Int) / 4294967296 = (q : Int) := by omega
      have hwq : IntKind.u64.wrap (q : Int) = (q : Int) := by rw [IntKind.wrap_u64]; omega
      have ST := Box.mk (show cy v t 0 0 m (k + 1) = q by rw [st, hq, hx]; congr 1; omega)
      have DG := Box.mk (show bd G k = r by rw [dg, hr, hx, Nat.add_comm])
      clear st dg hcc hdd he hx hr hq hrow hu hdt hcl hd hlt
      go_wp2
      refine ⟨⟨k + 1, by omega, by go_num, ?_, ?_, ?_⟩, by simp [intOf]; omega⟩
      · rw [ST.out]
      · rw [heap_setCell_same _ _ _ _ _ _ HR.out, ← DG.out, mx_step _ _ _ (by omega)]
      · exact HU.out.setCell (by simp) _
    · obtain rfl : k = 5 := by omega
      rw [mx_all] at hrow
      clear hu hlt
      go_wp2
      go_end0
      refine ⟨rfl, ?_, HU.out⟩
      unfold BigAt
      rw [← HG.out, gcell_mod]; exact hrow
set_option maxRecDepth 100000 in
set_option maxHeartbeats 2000000 in
theorem plus_any (p q x y t : Nat) (w : World) (h : BigAt w p x) (h2 : BigAt w q y) (hne : q ≠ p) (ht : t ≤ 65536) :
    Calls Try.prog 36 #[.pointer (some ⟨p, 0, none⟩), .pointer (some ⟨q, 0, none⟩), .int .u64 (t : Nat)] w fun e w' => e = .returned (.tuple #[]) ∧ BigAt w' p ((x + y * t) % pw 5) ∧ Upd [p] w w' := by
  obtain ⟨G, hG⟩ : ∃ G, G = x + y * t := ⟨_, rfl⟩
  have HG := Box.mk hG
  have hh : w.heap[p]? = some (.cells (gcell (mx G x 0)) 78 (0, 0)) := by rw [mx_zero]; exact h
  have H := Box.mk hh
  have HY := Box.mk (show w.heap[q]? = some (.cells (gcell (bd y)) 78 (0, 0)) from h2)
  clear h h2 hh hG
  go_enter Try.func36, Try.ntmps36
  go_wp2_with fail
  go_loopw [6, 7] (fun u i wr => ∃ k : Nat, k ≤ 5 ∧ i = .int .i64 k ∧ u = .int .u64 (cy x 1 y t 0 k : Nat) ∧ wr.heap[p]? = some (.cells (gcell (mx G x k)) 78 (0, 0)) ∧ wr.heap[q]? = some (.cells (gcell (bd y)) 78 (0, 0)) ∧ Upd [p] w wr) (fun _ i _ => 5 - (intOf i).toNat)
  case atStart => exact ⟨0, by omega, rfl, by rw [cy_zero]; rfl, H.out, HY.out, Upd.refl _ _⟩
  case round =>
    clear H HY
    obtain ⟨k, hk, rfl, rfl, hrow, hrow2, hu⟩ := hrel
    have HR := Box.mk hrow; have HR2 := Box.mk hrow2; have HU := Box.mk hu
    by_cases hlt : k < 5
    · have hkI : (k : Int) < 5 := by omega
      have hc : wr.cell? ⟨p, k, none⟩ = some (.int .u64 (bd x k : Nat)) := by
        rw [cell_of_row _ _ _ _ _ _ hrow, gcell_get _ _ hlt]; simp [mx]
      have hc2 : wr.cell? ⟨q, k, none⟩ = some (.int .u64 (bd y k : Nat)) := by
        rw [cell_of_row _ _ _ _ _ _ hrow2, gcell_get _ _ hlt]
      have hf : wr.frozen? ⟨p, k, none⟩ = false := frozen_of_row _ _ _ _ _ hrow
      have hd := bd_lt x k; have hd2 := bd_lt y k
      have st := cy_step x 1 y t 0 k; have dg := cy_digit x 1 y t 0 k
      rw [Nat.mul_one, Nat.add_zero, ← HG.out] at dg
      rw [Nat.mul_one] at st dg
      obtain ⟨c, hcc⟩ : ∃ c, c = cy x 1 y t 0 k := ⟨_, rfl⟩
      have hcl : c < 281474976710656 := by
        rw [hcc]; unfold cy
        have h1 := Nat.mod_lt x (pw_pos k); have h1' := Nat.mod_lt y (pw_pos k)
        have h2 : y % pw k * t ≤ pw k * 65536 := Nat.mul_le_mul (Nat.le_of_lt h1') ht
        have h3 := pw_pos k
        have h5 : (x % pw k * 1 + y % pw k * t + 0) / pw k ≤ 65537 := by
          rw [Nat.div_le_iff_le_mul_add_pred h3]; omega
        omega
      rw [← hcc] at st dg ⊢
      obtain ⟨a, haa⟩ : ∃ d, d = bd x k := ⟨_, rfl⟩
      obtain ⟨d, hdd⟩ : ∃ d, d = bd y k := ⟨_, rfl⟩
      rw [← haa] at hc hd st dg
      rw [← hdd] at hc2 hd2 st dg
      have hdt : d * t ≤ 4294967296 * 65536 := Nat.mul_le_mul (Nat.le_of_lt hd2) ht
      obtain ⟨e, he⟩ : ∃ e, e = d * t := ⟨_, rfl⟩
      rw [← he] at hdt st dg
      have hw1 : IntKind.u64.wrap ((d : Int) * (t : Int)) = (e : Int) := by rw [IntKind.wrap_u64, ← Int.natCast_mul, ← he]; omega
      obtain ⟨z, hz⟩ : ∃ z, z = a + e := ⟨_, rfl⟩
      have hw0 : IntKind.u64.wrap ((a : Int) + (e : Int)) = (z : Int) := by rw [IntKind.wrap_u64]; omega
      obtain ⟨s, hs⟩ : ∃ s, s = c + z := ⟨_, rfl⟩
      have hw2 : IntKind.u64.wrap ((c : Int) + (z : Int)) = (s : Int) := by rw [IntKind.wrap_u64]; omega
      obtain ⟨r, hr⟩ : ∃ r, r = s % 4294967296 := ⟨_, rfl⟩
      obtain ⟨g, hg⟩ : ∃ q, q = s / 4294967296 := ⟨_, rfl⟩
      have hrI : (s : Int) % 4294967296 = (r : Int) := by omega
      have hqI : (s : Int) / 4294967296 = (g : Int) := by omega
      have hwq : IntKind.u64.wrap (g : Int) = (g : Int) := by rw [IntKind.wrap_u64]; omega
      have ST := Box.mk (show cy x 1 y t 0 (k + 1) = g by rw [st, hg, hs, hz]; congr 1; omega)
      have DG := Box.mk (show bd G k = r by rw [dg, hr, hs, hz]; congr 1; omega)
      clear st dg hcc hdd haa he hz hs hr hg hrow hrow2 hu hdt hcl hd hd2 hlt
      go_wp2
      go_region
      go_wp2
      refine ⟨⟨k + 1, by omega, by go_num, ?_, ?_, ?_, ?_⟩, by simp [intOf]; omega⟩
      · rw [ST.out]
      · rw [heap_drew, heap_setCell_same _ _ _ _ _ _ HR.out, ← DG.out, mx_step _ _ _ (by omega)]
      · rw [heap_drew, heap_setCell_other _ _ _ _ (by simpa using hne)]; exact HR2.out
      · exact (HU.out.setCell (by simp) _).drew
    · obtain rfl : k = 5 := by omega
      rw [mx_all] at hrow
      clear hu hlt hrow2
      go_wp2
      go_end0
      refine ⟨rfl, ?_, HU.out⟩
      unfold BigAt
      rw [← HG.out, gcell_mod]; exact hrow
end Go.Proofs.Ytbjapmhfnegmeaa.Big
