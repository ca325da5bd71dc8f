/- Numbers of five digits of base 2^32: plain laws. Nothing of the program. The document of sha2: a number of five digits: grow, plus, less. The document of sha2: a number of five digits: less, below. The document of sha2: the root. The document of sha2: a kind; word, rot, three, two. The document of sha2: the first primes. -/
import Derived.Test.YtafhncpaoolljaaGreatM01
import Derived.Test.YtafhncpaoolljaaGreatRows
import Derived.Test.YtafhncpaoolljaaGreatM02
import Derived.Test.YtafhncpaoolljaaGreatM05
import Derived.Deep.DeepCutAuto
import Derived.Laws.BitsAllLaws
namespace Go.Proofs.YtafhncpaoolljaaGreat.Big
set_option maxRecDepth 100000
set_option linter.unusedVariables false
open Go Go.RowKit
def pw (i : Nat) : Nat := 2 ^ (32 * i)
theorem pw_pos (i : Nat) : 0 < pw i := Nat.two_pow_pos _
theorem pw_succ (i : Nat) : pw (i + 1) = pw i * 4294967296 := by unfold pw; rw [Nat.mul_add, Nat.pow_add]
theorem pw_zero : pw 0 = 1 := rfl
def bd (v i : Nat) : Nat := v / pw i % 4294967296
theorem bd_lt (v i : Nat) : bd v i < 4294967296 := Nat.mod_lt _ (by omega)
theorem mod_pw (v i : Nat) : v % pw (i + 1) = v % pw i + pw i * bd v i := by rw [pw_succ, Nat.mod_mul]; rfl
theorem div_pw (v i : Nat) : v / pw i = bd v i + 4294967296 * (v / pw (i + 1)) := by
 rw [pw_succ, ← Nat.div_div_eq_div_mul]
 unfold bd
 have := Nat.div_add_mod (v / pw i) 4294967296
 omega
def cy (a s b t m i : Nat) : Nat := (a % pw i * s + b % pw i * t + m) / pw i
theorem cy_zero (a s b t m : Nat) : cy a s b t m 0 = m := by unfold cy; rw [pw_zero]; simp [Nat.mod_one]
theorem cy_step (a s b t m i : Nat) : cy a s b t m (i + 1) = (bd a i * s + bd b i * t + cy a s b t m i) / 4294967296 := by
 unfold cy
 rw [mod_pw, mod_pw, show (a % pw i + pw i * bd a i) * s + (b % pw i + pw i * bd b i) * t + m = a % pw i * s + b % pw i * t + m + pw i * (bd a i * s + bd b i * t) by
   rw [Nat.add_mul, Nat.add_mul, Nat.mul_add, Nat.mul_assoc, Nat.mul_assoc]; omega, pw_succ, ← Nat.div_div_eq_div_mul, Nat.add_mul_div_left _ _ (pw_pos i)]
 congr 1; omega
theorem cy_digit (a s b t m i : Nat) : bd (a * s + b * t + m) i = (bd a i * s + bd b i * t + cy a s b t m i) % 4294967296 := by
 have ha := Nat.div_add_mod a (pw i); have hb := Nat.div_add_mod b (pw i)
 have e : (a * s + b * t + m) / pw i = a / pw i * s + b / pw i * t + cy a s b t m i := by
   unfold cy
   have h : a * s + b * t + m = a % pw i * s + b % pw i * t + m + pw i * (a / pw i * s + b / pw i * t) := by
     conv => lhs; rw [← ha, ← hb]
     rw [Nat.add_mul, Nat.add_mul, Nat.mul_add, Nat.mul_assoc, Nat.mul_assoc]; omega
   rw [h, Nat.add_mul_div_left _ _ (pw_pos i)]; omega
 conv => lhs; unfold bd
 rw [e, div_pw a, div_pw b]
 rw [show (bd a i + 4294967296 * (a / pw (i + 1))) * s + (bd b i + 4294967296 * (b / pw (i + 1))) * t + cy a s b t m i = bd a i * s + bd b i * t + cy a s b t m i + 4294967296 * (a / pw (i + 1) * s + b / pw (i + 1) * t) by
   rw [Nat.add_mul, Nat.add_mul, Nat.mul_add, Nat.mul_assoc, Nat.mul_assoc]; omega, Nat.add_mul_mod_self_left]
theorem bd_mod (v i : Nat) (hi : i < 5) : bd (v % pw 5) i = bd v i := by
 have h : pw 5 = pw i * (4294967296 * pw (4 - i)) := by
   have : pw 5 = pw (i + 1 + (4 - i)) := by congr 1; omega
   rw [this]; unfold pw; rw [Nat.mul_add, Nat.pow_add, Nat.mul_add, Nat.pow_add, Nat.mul_assoc]
 unfold bd
 rw [h, Nat.mod_mul_right_div_self, Nat.mod_mul_right_mod]
def un (x y i : Nat) : Nat := if x % pw i < y % pw i then 1 else 0
theorem un_le (x y i : Nat) : un x y i ≤ 1 := by unfold un; split <;> omega
theorem un_zero (x y : Nat) : un x y 0 = 0 := by unfold un; rw [pw_zero]; simp [Nat.mod_one]
theorem un_step (x y i : Nat) : un x y (i + 1) = 1 - (bd x i + 4294967296 - bd y i - un x y i) / 4294967296 := by
 have hx := bd_lt x i; have hy := bd_lt y i
 have h1 := Nat.mod_lt x (pw_pos i); have h2 := Nat.mod_lt y (pw_pos i)
 unfold un
 rw [mod_pw, mod_pw]
 rcases Nat.lt_trichotomy (bd x i) (bd y i) with h | h | h
 · have : pw i * (bd x i + 1) ≤ pw i * bd y i := Nat.mul_le_mul (Nat.le_refl _) h
   rw [Nat.mul_add, Nat.mul_one] at this
   rw [if_pos (by omega)]
   split <;> omega
 · rw [h]
   by_cases h3 : x % pw i < y % pw i
   · rw [if_pos (by omega), if_pos h3]; omega
   · rw [if_neg (by omega), if_neg h3]; omega
 · have : pw i * (bd y i + 1) ≤ pw i * bd x i := Nat.mul_le_mul (Nat.le_refl _) h
   rw [Nat.mul_add, Nat.mul_one] at this
   rw [if_neg (by omega)]
   split <;> omega
theorem un_digit (x y i : Nat) (h : y ≤ x) : bd (x - y) i = (bd x i + 4294967296 - bd y i - un x y i) % 4294967296 := by
 have hx := bd_lt x i; have hy := bd_lt y i
 have h1 := Nat.mod_lt x (pw_pos i); have h2 := Nat.mod_lt y (pw_pos i)
 have ex := Nat.div_add_mod x (pw i); have ey := Nat.div_add_mod y (pw i)
 have hq : y / pw i ≤ x / pw i := Nat.div_le_div_right h
 have e : (x - y) / pw i = x / pw i - y / pw i - un x y i := by
   unfold un
   split
   · rename_i hl
     have hlt : y / pw i < x / pw i := by
       rcases Nat.lt_or_ge (y / pw i) (x / pw i) with h3 | h3
       · exact h3
       · have : x / pw i = y / pw i := by omega
         rw [this] at ex; omega
     obtain ⟨k, hk⟩ : ∃ k, x / pw i = y / pw i + 1 + k := ⟨x / pw i - y / pw i - 1, by omega⟩
     have e2 : x - y = (pw i - (y % pw i - x % pw i)) + pw i * k := by
       rw [hk, Nat.mul_add, Nat.mul_add, Nat.mul_one] at ex
       omega
     rw [e2, Nat.add_mul_div_left _ _ (pw_pos i), Nat.div_eq_of_lt (by omega)]; omega
   · rename_i hl
     obtain ⟨k, hk⟩ : ∃ k, x / pw i = y / pw i + k := ⟨x / pw i - y / pw i, by omega⟩
     have e2 : x - y = (x % pw i - y % pw i) + pw i * k := by
       rw [hk, Nat.mul_add] at ex
       omega
     rw [e2, Nat.add_mul_div_left _ _ (pw_pos i), Nat.div_eq_of_lt (by omega)]; omega
 have u1 := un_le x y i
 have hle : y / pw i + un x y i ≤ x / pw i := by
   unfold un
   split
   · rename_i hl
     rcases Nat.lt_or_ge (y / pw i) (x / pw i) with h3 | h3
     · omega
     · have : x / pw i = y / pw i := by omega
       rw [this] at ex; omega
   · omega
 have dx := div_pw x i; have dy := div_pw y i
 conv => lhs; unfold bd
 rw [e]
 generalize un x y i = u at u1 hle ⊢
 generalize x / pw i = X at dx hle ⊢
 generalize y / pw i = Y at dy hle ⊢
 omega
theorem below_here (x y i : Nat) (h : x / pw (i + 1) = y / pw (i + 1)) (hne : bd x i ≠ bd y i) : (x < y) ↔ bd x i < bd y i := by
 have dx := div_pw x i; have dy := div_pw y i
 rw [h] at dx
 constructor
 · intro hl
   have := Nat.div_le_div_right (c := pw i) (Nat.le_of_lt hl)
   omega
 · intro hl
   rcases Nat.lt_or_ge x y with h3 | h3
   · exact h3
   · have := Nat.div_le_div_right (c := pw i) h3
     omega
theorem below_next (x y i : Nat) (h : x / pw (i + 1) = y / pw (i + 1)) (he : bd x i = bd y i) : x / pw i = y / pw i := by
 rw [div_pw x i, div_pw y i, h, he]
open Go Go.RowKit
def gcell (f : Nat → Nat) : Array Value := #[.int .u64 (f 0 : Nat), .int .u64 (f 1 : Nat), .int .u64 (f 2 : Nat), .int .u64 (f 3 : Nat), .int .u64 (f 4 : Nat)]
theorem gcell_get (f : Nat → Nat) (i : Nat) (hi : i < 5) : (gcell f)[i]? = some (.int .u64 (f i : Nat)) := by
 match i, hi with
 | 0, _ => rfl
 | 1, _ => rfl
 | 2, _ => rfl
 | 3, _ => rfl
 | 4, _ => rfl
def mx (G v k : Nat) : Nat → Nat := fun j => if j < k then bd G j else bd v j
theorem mx_zero (G v : Nat) : mx G v 0 = bd v := by funext j; simp [mx]
theorem mx_step (G v k : Nat) (hk : k < 5) : (gcell (mx G v k)).setIfInBounds k (.int .u64 (bd G k : Nat)) = gcell (mx G v (k + 1)) := by
 match k, hk with
 | 0, _ => simp [gcell, mx]
 | 1, _ => simp [gcell, mx]
 | 2, _ => simp [gcell, mx]
 | 3, _ => simp [gcell, mx]
 | 4, _ => simp [gcell, mx]
theorem mx_all (G v : Nat) : gcell (mx G v 5) = gcell (bd G) := by simp [gcell, mx]
theorem gcell_mod (G : Nat) : gcell (bd (G % pw 5)) = gcell (bd G) := by
 simp only [gcell, bd_mod G _ (show 0 < 5 by omega), bd_mod G _ (show 1 < 5 by omega), bd_mod G _ (show 2 < 5 by omega), bd_mod G _ (show 3 < 5 by omega), bd_mod G _ (show 4 < 5 by omega)]
def BigAt (w : World) (p v : Nat) : Prop := w.heap[p]? = some (.cells (gcell (bd v)) 169 (0, 0))
set_option maxRecDepth 100000 in
set_option maxHeartbeats 2000000 in
theorem grow_any (p v t m : Nat) (w : World) (h : BigAt w p v) (ht : t ≤ 65536) (hm : m < 4294967296) :
   Calls Tryz.prog 140 #[.pointer (some ⟨p, 0, none⟩), .int .u64 (t : Nat), .int .u64 (m : Nat)] w fun e w' => e = .returned (.tuple #[]) ∧ BigAt w' p ((v * t + m) % pw 5) ∧ Upd [p] w w' := by
 obtain ⟨G, hG⟩ : ∃ G, G = v * t + m := ⟨_, rfl⟩
 have HG := Box.mk hG
 have hh : w.heap[p]? = some (.cells (gcell (mx G v 0)) 169 (0, 0)) := by rw [mx_zero]; exact h
 have H := Box.mk hh
 clear h hh hG
 go_enter Tryz.func140, Tryz.ntmps140
 go_wp2_with fail
 go_loopw [2, 6] (fun x i wr => ∃ k : Nat, k ≤ 5 ∧ i = .int .i64 k ∧ x = .int .u64 (cy v t 0 0 m k : Nat) ∧ wr.heap[p]? = some (.cells (gcell (mx G v k)) 169 (0, 0)) ∧ Upd [p] w wr) (fun _ i _ => 5 - (intOf i).toNat)
 case atStart => exact ⟨0, by omega, rfl, by rw [cy_zero], H.out, Upd.refl _ _⟩
 case round =>
   clear H
   obtain ⟨k, hk, rfl, rfl, hrow, hu⟩ := hrel
   have HR := Box.mk hrow; have HU := Box.mk hu
   by_cases hlt : k < 5
   · have hkI : (k : Int) < 5 := by omega
     have hc : wr.cell? ⟨p, k, none⟩ = some (.int .u64 (bd v k : Nat)) := by
       rw [cell_of_row _ _ _ _ _ _ hrow, gcell_get _ _ hlt]; simp [mx]
     have hf : wr.frozen? ⟨p, k, none⟩ = false := frozen_of_row _ _ _ _ _ hrow
     have hd := bd_lt v k
     have st := cy_step v t 0 0 m k; have dg := cy_digit v t 0 0 m k
     rw [Nat.mul_zero, Nat.add_zero] at st dg
     rw [Nat.mul_zero, Nat.add_zero, ← HG.out] at dg
     obtain ⟨c, hcc⟩ : ∃ c, c = cy v t 0 0 m k := ⟨_, rfl⟩
     have hcl : c < 281474976710656 := by
       rw [hcc]; unfold cy
       rw [Nat.mul_zero, Nat.add_zero]
       have h1 := Nat.mod_lt v (pw_pos k)
       have h2 : v % pw k * t ≤ pw k * 65536 := Nat.mul_le_mul (Nat.le_of_lt h1) ht
       have h3 := pw_pos k
       have h4 : m ≤ pw k * 4294967296 := Nat.le_trans (Nat.le_of_lt hm) (Nat.le_mul_of_pos_left _ h3)
       have h5 : (v % pw k * t + m) / pw k ≤ 4295032832 := by
         rw [Nat.div_le_iff_le_mul_add_pred h3]; omega
       omega
     rw [← hcc] at st dg ⊢
     obtain ⟨d, hdd⟩ : ∃ d, d = bd v k := ⟨_, rfl⟩
     rw [← hdd] at hc hd st dg
     have hdt : d * t ≤ 4294967296 * 65536 := Nat.mul_le_mul (Nat.le_of_lt hd) ht
     obtain ⟨e, he⟩ : ∃ e, e = d * t := ⟨_, rfl⟩
     rw [← he] at hdt st dg
     have hw1 : IntKind.u64.wrap ((d : Int) * (t : Int)) = (e : Int) := by rw [IntKind.wrap_u64, ← Int.natCast_mul, ← he]; omega
     obtain ⟨x, hx⟩ : ∃ x, x = c + e := ⟨_, rfl⟩
     have hw2 : IntKind.u64.wrap ((c : Int) + (e : Int)) = (x : Int) := by rw [IntKind.wrap_u64]; omega
     obtain ⟨r, hr⟩ : ∃ r, r = x % 4294967296 := ⟨_, rfl⟩
     obtain ⟨q, hq⟩ : ∃ q, q = x / 4294967296 := ⟨_, rfl⟩
     have hrI : (x : Int) % 4294967296 = (r : Int) := by omega
     have hqI : (x : Int) / 4294967296 = (q : Int) := by omega
     have hwq : IntKind.u64.wrap (q : Int) = (q : Int) := by rw [IntKind.wrap_u64]; omega
     have ST := Box.mk (show cy v t 0 0 m (k + 1) = q by rw [st, hq, hx]; congr 1; omega)
     have DG := Box.mk (show bd G k = r by rw [dg, hr, hx, Nat.add_comm])
     clear st dg hcc hdd he hx hr hq hrow hu hdt hcl hd hlt
     go_wp2
     refine ⟨⟨k + 1, by omega, by go_num, ?_, ?_, ?_⟩, by simp [intOf]; omega⟩
     · rw [ST.out]
     · rw [heap_setCell_same _ _ _ _ _ _ HR.out, ← DG.out, mx_step _ _ _ (by omega)]
     · exact HU.out.setCell (by simp) _
   · obtain rfl : k = 5 := by omega
     rw [mx_all] at hrow
     clear hu hlt
     go_wp2
     go_end0
     refine ⟨rfl, ?_, HU.out⟩
     unfold BigAt
     rw [← HG.out, gcell_mod]; exact hrow
set_option maxRecDepth 100000 in
set_option maxHeartbeats 2000000 in
theorem plus_any (p q x y t : Nat) (w : World) (h : BigAt w p x) (h2 : BigAt w q y) (hne : q ≠ p) (ht : t ≤ 65536) :
   Calls Tryz.prog 141 #[.pointer (some ⟨p, 0, none⟩), .pointer (some ⟨q, 0, none⟩), .int .u64 (t : Nat)] w fun e w' => e = .returned (.tuple #[]) ∧ BigAt w' p ((x + y * t) % pw 5) ∧ Upd [p] w w' := by
 obtain ⟨G, hG⟩ : ∃ G, G = x + y * t := ⟨_, rfl⟩
 have HG := Box.mk hG
 have hh : w.heap[p]? = some (.cells (gcell (mx G x 0)) 169 (0, 0)) := by rw [mx_zero]; exact h
 have H := Box.mk hh
 have HY := Box.mk (show w.heap[q]? = some (.cells (gcell (bd y)) 169 (0, 0)) from h2)
 clear h h2 hh hG
 go_enter Tryz.func141, Tryz.ntmps141
 go_wp2_with fail
 go_loopw [6, 7] (fun u i wr => ∃ k : Nat, k ≤ 5 ∧ i = .int .i64 k ∧ u = .int .u64 (cy x 1 y t 0 k : Nat) ∧ wr.heap[p]? = some (.cells (gcell (mx G x k)) 169 (0, 0)) ∧ wr.heap[q]? = some (.cells (gcell (bd y)) 169 (0, 0)) ∧ Upd [p] w wr) (fun _ i _ => 5 - (intOf i).toNat)
 case atStart => exact ⟨0, by omega, rfl, by rw [cy_zero]; rfl, H.out, HY.out, Upd.refl _ _⟩
 case round =>
   clear H HY
   obtain ⟨k, hk, rfl, rfl, hrow, hrow2, hu⟩ := hrel
   have HR := Box.mk hrow; have HR2 := Box.mk hrow2; have HU := Box.mk hu
   by_cases hlt : k < 5
   · have hkI : (k : Int) < 5 := by omega
     have hc : wr.cell? ⟨p, k, none⟩ = some (.int .u64 (bd x k : Nat)) := by
       rw [cell_of_row _ _ _ _ _ _ hrow, gcell_get _ _ hlt]; simp [mx]
     have hc2 : wr.cell? ⟨q, k, none⟩ = some (.int .u64 (bd y k : Nat)) := by
       rw [cell_of_row _ _ _ _ _ _ hrow2, gcell_get _ _ hlt]
     have hf : wr.frozen? ⟨p, k, none⟩ = false := frozen_of_row _ _ _ _ _ hrow
     have hd := bd_lt x k; have hd2 := bd_lt y k
     have st := cy_step x 1 y t 0 k; have dg := cy_digit x 1 y t 0 k
     rw [Nat.mul_one, Nat.add_zero, ← HG.out] at dg
     rw [Nat.mul_one] at st dg
     obtain ⟨c, hcc⟩ : ∃ c, c = cy x 1 y t 0 k := ⟨_, rfl⟩
     have hcl : c < 281474976710656 := by
       rw [hcc]; unfold cy
       have h1 := Nat.mod_lt x (pw_pos k); have h1' := Nat.mod_lt y (pw_pos k)
       have h2 : y % pw k * t ≤ pw k * 65536 := Nat.mul_le_mul (Nat.le_of_lt h1') ht
       have h3 := pw_pos k
       have h5 : (x % pw k * 1 + y % pw k * t + 0) / pw k ≤ 65537 := by
         rw [Nat.div_le_iff_le_mul_add_pred h3]; omega
       omega
     rw [← hcc] at st dg ⊢
     obtain ⟨a, haa⟩ : ∃ d, d = bd x k := ⟨_, rfl⟩
     obtain ⟨d, hdd⟩ : ∃ d, d = bd y k := ⟨_, rfl⟩
     rw [← haa] at hc hd st dg
     rw [← hdd] at hc2 hd2 st dg
     have hdt : d * t ≤ 4294967296 * 65536 := Nat.mul_le_mul (Nat.le_of_lt hd2) ht
     obtain ⟨e, he⟩ : ∃ e, e = d * t := ⟨_, rfl⟩
     rw [← he] at hdt st dg
     have hw1 : IntKind.u64.wrap ((d : Int) * (t : Int)) = (e : Int) := by rw [IntKind.wrap_u64, ← Int.natCast_mul, ← he]; omega
     obtain ⟨z, hz⟩ : ∃ z, z = a + e := ⟨_, rfl⟩
     have hw0 : IntKind.u64.wrap ((a : Int) + (e : Int)) = (z : Int) := by rw [IntKind.wrap_u64]; omega
     obtain ⟨s, hs⟩ : ∃ s, s = c + z := ⟨_, rfl⟩
     have hw2 : IntKind.u64.wrap ((c : Int) + (z : Int)) = (s : Int) := by rw [IntKind.wrap_u64]; omega
     obtain ⟨r, hr⟩ : ∃ r, r = s % 4294967296 := ⟨_, rfl⟩
     obtain ⟨g, hg⟩ : ∃ q, q = s / 4294967296 := ⟨_, rfl⟩
     have hrI : (s : Int) % 4294967296 = (r : Int) := by omega
     have hqI : (s : Int) / 4294967296 = (g : Int) := by omega
     have hwq : IntKind.u64.wrap (g : Int) = (g : Int) := by rw [IntKind.wrap_u64]; omega
     have ST := Box.mk (show cy x 1 y t 0 (k + 1) = g by rw [st, hg, hs, hz]; congr 1; omega)
     have DG := Box.mk (show bd G k = r by rw [dg, hr, hs, hz]; congr 1; omega)
     clear st dg hcc hdd haa he hz hs hr hg hrow hrow2 hu hdt hcl hd hd2 hlt
     go_wp2
     go_region
     go_wp2
     refine ⟨⟨k + 1, by omega, by go_num, ?_, ?_, ?_, ?_⟩, by simp [intOf]; omega⟩
     · rw [ST.out]
     · rw [heap_drew, heap_setCell_same _ _ _ _ _ _ HR.out, ← DG.out, mx_step _ _ _ (by omega)]
     · rw [heap_drew, heap_setCell_other _ _ _ _ (by simpa using hne)]; exact HR2.out
     · exact (HU.out.setCell (by simp) _).drew
   · obtain rfl : k = 5 := by omega
     rw [mx_all] at hrow
     clear hu hlt hrow2
     go_wp2
     go_end0
     refine ⟨rfl, ?_, HU.out⟩
     unfold BigAt
     rw [← HG.out, gcell_mod]; exact hrow
open Go Go.RowKit
theorem less_any (p q x y : Nat) (w : World) (h : BigAt w p x) (h2 : BigAt w q y) (hne : q ≠ p) (hle : y ≤ x) :
   Calls Tryz.prog 143 #[.pointer (some ⟨p, 0, none⟩), .pointer (some ⟨q, 0, none⟩)] w fun e w' => e = .returned (.tuple #[]) ∧ BigAt w' p (x - y) ∧ Upd [p] w w' := by
 obtain ⟨G, hG⟩ : ∃ G, G = x - y := ⟨_, rfl⟩
 have HG := Box.mk hG
 have hh : w.heap[p]? = some (.cells (gcell (mx G x 0)) 169 (0, 0)) := by rw [mx_zero]; exact h
 have H := Box.mk hh
 have HY := Box.mk (show w.heap[q]? = some (.cells (gcell (bd y)) 169 (0, 0)) from h2)
 have HL := Box.mk hle
 clear h h2 hh hG hle
 go_enter Tryz.func143, Tryz.ntmps143
 go_wp2_with fail
 go_loopw [4, 5] (fun u i wr => ∃ k : Nat, k ≤ 5 ∧ i = .int .i64 k ∧ u = .int .u64 (un x y k : Nat) ∧ wr.heap[p]? = some (.cells (gcell (mx G x k)) 169 (0, 0)) ∧ wr.heap[q]? = some (.cells (gcell (bd y)) 169 (0, 0)) ∧ Upd [p] w wr) (fun _ i _ => 5 - (intOf i).toNat)
 case atStart => exact ⟨0, by omega, rfl, by rw [un_zero]; rfl, H.out, HY.out, Upd.refl _ _⟩
 case round =>
   clear H HY
   obtain ⟨k, hk, rfl, rfl, hrow, hrow2, hu⟩ := hrel
   have HR := Box.mk hrow; have HR2 := Box.mk hrow2; have HU := Box.mk hu
   by_cases hlt : k < 5
   · have hkI : (k : Int) < 5 := by omega
     have hc : wr.cell? ⟨p, k, none⟩ = some (.int .u64 (bd x k : Nat)) := by
       rw [cell_of_row _ _ _ _ _ _ hrow, gcell_get _ _ hlt]; simp [mx]
     have hc2 : wr.cell? ⟨q, k, none⟩ = some (.int .u64 (bd y k : Nat)) := by
       rw [cell_of_row _ _ _ _ _ _ hrow2, gcell_get _ _ hlt]
     have hf : wr.frozen? ⟨p, k, none⟩ = false := frozen_of_row _ _ _ _ _ hrow
     have hd := bd_lt x k; have hd2 := bd_lt y k
     have st := un_step x y k; have dg := un_digit x y k HL.out
     rw [← HG.out] at dg
     have hcl := un_le x y k
     obtain ⟨c, hcc⟩ : ∃ c, c = un x y k := ⟨_, rfl⟩
     rw [← hcc] at st dg hcl ⊢
     obtain ⟨a, haa⟩ : ∃ d, d = bd x k := ⟨_, rfl⟩
     obtain ⟨d, hdd⟩ : ∃ d, d = bd y k := ⟨_, rfl⟩
     rw [← haa] at hc hd st dg
     rw [← hdd] at hc2 hd2 st dg
     obtain ⟨z, hz⟩ : ∃ z, z = a + 4294967296 := ⟨_, rfl⟩
     have hw0 : IntKind.u64.wrap ((a : Int) + 4294967296) = (z : Int) := by rw [IntKind.wrap_u64]; omega
     obtain ⟨b, hb⟩ : ∃ b, b = z - d := ⟨_, rfl⟩
     have hw1 : IntKind.u64.wrap ((z : Int) - (d : Int)) = (b : Int) := by rw [IntKind.wrap_u64]; omega
     obtain ⟨s, hs⟩ : ∃ s, s = b - c := ⟨_, rfl⟩
     have hw2 : IntKind.u64.wrap ((b : Int) - (c : Int)) = (s : Int) := by rw [IntKind.wrap_u64]; omega
     obtain ⟨r, hr⟩ : ∃ r, r = s % 4294967296 := ⟨_, rfl⟩
     obtain ⟨g, hg⟩ : ∃ q, q = s / 4294967296 := ⟨_, rfl⟩
     have hrI : (s : Int) % 4294967296 = (r : Int) := by omega
     have hqI : (s : Int) / 4294967296 = (g : Int) := by omega
     have hg1 : g ≤ 1 := by omega
     have hwq : IntKind.u64.wrap (g : Int) = (g : Int) := by rw [IntKind.wrap_u64]; omega
     obtain ⟨o, ho⟩ : ∃ o, o = 1 - g := ⟨_, rfl⟩
     have hwo : IntKind.u64.wrap (1 - (g : Int)) = (o : Int) := by rw [IntKind.wrap_u64]; omega
     have ST := Box.mk (show un x y (k + 1) = o by rw [st, ho, hg, hs, hb, hz])
     have DG := Box.mk (show bd G k = r by rw [dg, hr, hs, hb, hz])
     clear st dg hcc hdd haa hz hb hs hr hg ho hrow hrow2 hu hcl hd hd2 hlt hg1
     go_wp2
     go_region
     go_wp2
     refine ⟨⟨k + 1, by omega, by go_num, ?_, ?_, ?_, ?_⟩, by simp [intOf]; omega⟩
     · rw [ST.out]
     · rw [heap_drew, heap_setCell_same _ _ _ _ _ _ HR.out, ← DG.out, mx_step _ _ _ (by omega)]
     · rw [heap_drew, heap_setCell_other _ _ _ _ (by simpa using hne)]; exact HR2.out
     · exact (HU.out.setCell (by simp) _).drew
   · obtain rfl : k = 5 := by omega
     rw [mx_all] at hrow
     clear hu hlt hrow2
     go_wp2
     go_end0
     refine ⟨rfl, ?_, HU.out⟩
     unfold BigAt
     rw [← HG.out]; exact hrow
set_option maxRecDepth 100000 in
set_option maxHeartbeats 2000000 in
theorem below_any (p q x y : Nat) (w : World) (h : BigAt w p x) (h2 : BigAt w q y) (hx : x < pw 5) (hy : y < pw 5) :
   Calls Tryz.prog 142 #[.pointer (some ⟨p, 0, none⟩), .pointer (some ⟨q, 0, none⟩)] w fun e w' => e = .returned (.bool (decide (x < y))) ∧ Upd [] w w' := by
 have H := Box.mk (show w.heap[p]? = some (.cells (gcell (bd x)) 169 (0, 0)) from h)
 have HY := Box.mk (show w.heap[q]? = some (.cells (gcell (bd y)) 169 (0, 0)) from h2)
 have h5 : x / pw (4 + 1) = y / pw (4 + 1) := by rw [Nat.div_eq_of_lt hx, Nat.div_eq_of_lt hy]
 have H5 := Box.mk h5
 obtain ⟨t, ht⟩ : ∃ t, t = decide (x < y) := ⟨_, rfl⟩
 rw [← ht]
 have HT := Box.mk ht
 clear h h2 h5 hx hy ht
 go_enter Tryz.func142, Tryz.ntmps142
 go_wp2_with fail
 go_loopw [5] (fun i wr => ∃ k : Nat, k ≤ 5 ∧ i = .int .i64 ((k : Int) - 1) ∧ x / pw k = y / pw k ∧ wr.heap[p]? = some (.cells (gcell (bd x)) 169 (0, 0)) ∧ wr.heap[q]? = some (.cells (gcell (bd y)) 169 (0, 0)) ∧ Upd [] w wr) (fun i _ => (intOf i + 1).toNat)
 case atStart => exact ⟨5, by omega, rfl, H5.out, H.out, HY.out, Upd.refl _ _⟩
 case round =>
   clear H HY H5
   obtain ⟨k, hk, rfl, heq, hrow, hrow2, hu⟩ := hrel
   have HR := Box.mk hrow; have HR2 := Box.mk hrow2; have HU := Box.mk hu; have HE := Box.mk heq
   clear heq
   by_cases hlt : 0 < k
   · obtain ⟨j, rfl⟩ : ∃ j, k = j + 1 := ⟨k - 1, by omega⟩
     have ej : ((j + 1 : Nat) : Int) - 1 = (j : Int) := by omega
     rw [ej]
     have hkI : (0 : Int) ≤ (j : Int) := by omega
     have hkI5 : (j : Int) < 5 := by omega
     have hc : wr.cell? ⟨p, j, none⟩ = some (.int .u64 (bd x j : Nat)) := by
       rw [cell_of_row _ _ _ _ _ _ hrow, gcell_get _ _ (by omega)]
     have hc2 : wr.cell? ⟨q, j, none⟩ = some (.int .u64 (bd y j : Nat)) := by
       rw [cell_of_row _ _ _ _ _ _ hrow2, gcell_get _ _ (by omega)]
     have Hh := Box.mk (below_here x y j HE.out); have Hn := Box.mk (below_next x y j HE.out)
     obtain ⟨a, haa⟩ : ∃ d, d = bd x j := ⟨_, rfl⟩
     obtain ⟨d, hdd⟩ : ∃ d, d = bd y j := ⟨_, rfl⟩
     rw [← haa, ← hdd] at Hh Hn
     rw [← haa] at hc
     rw [← hdd] at hc2
     clear haa hdd hlt hrow hrow2 hu ej
     by_cases hne : a = d
     · subst hne
       have hneB : ((a : Int) != (a : Int)) = false := by simp
       have ha2 := Box.mk (Hn.out rfl)
       clear Hn Hh
       go_wp2
       go_region
       go_wp2
       exact ⟨⟨j, by omega, by go_num, ha2.out, by rw [heap_drew]; exact HR.out, by rw [heap_drew]; exact HR2.out, HU.out.drew⟩, by simp [intOf]⟩
     · have hneI : ((a : Int) = (d : Int)) = False := by simp; omega
       have hneB : ((a : Int) != (d : Int)) = true := by rw [bne_iff_ne]; omega
       have hd : decide (a < d) = t := by
         rw [HT.out]; congr 1; apply propext; rw [Hh.out hne]
       clear Hn Hh HT
       go_wp2
       go_quiet (fail)
       go_wp2
       go_quiet (fail)
       go_wp2
       go_ret
       exact ⟨by rw [← hd]; rfl, ⟨HU.out.os, HU.out.tape, HU.out.output, HU.out.size, HU.out.block⟩⟩
   · obtain rfl : k = 0 := by omega
     have he : t = false := by
       have := HE.out; rw [pw_zero, Nat.div_one, Nat.div_one] at this
       rw [HT.out]; simp; omega
     subst he
     clear hu hlt hrow hrow2 HT
     go_wp2
     go_ret
     exact ⟨rfl, HU.out⟩
open Go Go.RowKit
open Sha (R3 M160 rmore rstep rloop rootF)
theorem als (w : World) (o : Obj) : (w.alloc o).heap.size = w.heap.size + 1 := by simp
theorem dig2 (r : Nat) : bd r 0 + bd r 1 * 4294967296 = r % 2 ^ 64 := by
 have h0 : bd r 0 = r % 4294967296 := by unfold bd; rw [pw_zero, Nat.div_one]
 have h1 : bd r 1 = r / 4294967296 % 4294967296 := rfl
 rw [h0, h1]; omega
theorem one_lt_pw : 1 < pw 5 := by decide
theorem bd_z (i : Nat) : bd 0 i = 0 := by simp [bd]
theorem BigAt.lt {w : World} {p v : Nat} (h : BigAt w p v) : p < w.heap.size := (Array.getElem?_eq_some_iff.1 h).1
theorem BigAt.keep {w w' : World} {p v : Nat} {S : List Nat} (h : BigAt w p v) (u : Upd S w w') (hn : p ∉ S) : BigAt w' p v := (u.block p h.lt hn).trans h
theorem BigAt.alloc {w : World} {p v : Nat} (h : BigAt w p v) (o : Obj) : BigAt (w.alloc o) p v := (Below.heap_alloc _ _ _ h.lt).trans h
theorem BigAt.new (w : World) : BigAt (w.alloc (.cells #[.int .u64 0, .int .u64 0, .int .u64 0, .int .u64 0, .int .u64 0] 169)) w.heap.size 0 := by
 unfold BigAt
 rw [show gcell (bd 0) = #[.int .u64 0, .int .u64 0, .int .u64 0, .int .u64 0, .int .u64 0] by simp [gcell, bd_z]]
 exact heap_alloc_new _ _
structure RSt (w : World) (A r q l : Nat) (wx : World) : Prop where
 a : BigAt wx A r
 b : BigAt wx (A + 1) q
 c : BigAt wx (A + 2) l
 eA : A = w.heap.size
 bel : Below w.heap.size w wx
theorem RSt.onA {w wx w' : World} {A r q l r' : Nat} (h : RSt w A r q l wx) (hb : BigAt w' A r') (u : Upd [A] wx w') : RSt w A r' q l w' :=
 ⟨hb, h.b.keep u (by simp), h.c.keep u (by simp), h.eA, Upd.below h.bel u (by simp [h.eA]) h.bel.size⟩
theorem RSt.onB {w wx w' : World} {A r q l q' : Nat} (h : RSt w A r q l wx) (hb : BigAt w' (A + 1) q') (u : Upd [A + 1] wx w') : RSt w A r q' l w' :=
 ⟨h.a.keep u (by simp), hb, h.c.keep u (by simp), h.eA, Upd.below h.bel u (by simp [h.eA]) h.bel.size⟩
theorem RSt.onC {w wx w' : World} {A r q l l' : Nat} (h : RSt w A r q l wx) (hb : BigAt w' (A + 2) l') (u : Upd [A + 2] wx w') : RSt w A r q l' w' :=
 ⟨h.a.keep u (by simp), h.b.keep u (by simp), hb, h.eA, Upd.below h.bel u (by simp [h.eA]) h.bel.size⟩
theorem RSt.onD {w wx w' : World} {A r q l : Nat} {S : List Nat} (h : RSt w A r q l wx) (u : Upd S wx w') (hS : ∀ i, i ∈ S → A + 2 < i) : RSt w A r q l w' :=
 ⟨h.a.keep u (fun m => by have := hS _ m; omega), h.b.keep u (fun m => by have := hS _ m; omega), h.c.keep u (fun m => by have := hS _ m; omega), h.eA, Upd.below h.bel u (fun i hi => by have := hS _ hi; have := h.eA; omega) h.bel.size⟩
theorem RSt.ltD {w wx : World} {A r q l : Nat} (h : RSt w A r q l wx) : A + 2 < wx.heap.size := h.c.lt
theorem RSt.alloc {w wx : World} {A r q l : Nat} (h : RSt w A r q l wx) (o : Obj) : RSt w A r q l (wx.alloc o) :=
 ⟨h.a.alloc o, h.b.alloc o, h.c.alloc o, h.eA, h.bel.alloc h.bel.size o⟩
def gN (n p j : Nat) : Nat := if 64 ≤ j then n / 2 ^ (p * (j - 64)) % 2 ^ p else 0
theorem gN_lt (n p j : Nat) (h : p ≤ 3) : gN n p j < 8 := by
 unfold gN
 split
 · have h1 := Nat.mod_lt (n / 2 ^ (p * (j - 64))) (Nat.two_pow_pos p)
   have h2 : 2 ^ p ≤ 2 ^ 3 := Nat.pow_le_pow_right (by omega) h
   omega
 · omega
theorem gN_low (n p j : Nat) (h : j < 64) : gN n p j = 0 := by unfold gN; rw [if_neg (by omega)]
theorem gN_at (n p t : Nat) : gN n p (64 + t) = n / 2 ^ (p * t) % 2 ^ p := by unfold gN; rw [if_pos (by omega), Nat.add_sub_cancel_left]
theorem rl_low (n p j r q l r1 q1 L m : Nat) (hr : r1 = r * 2 % pw 5) (hq : q1 = q * 4 % pw 5) (hl : L = (l * 2 ^ p + gN n p j) % pw 5) (hm : m = rmore p r1 q1) (h : L < m) :
   rloop n p (j + 1) ⟨r, q, l⟩ = rloop n p j ⟨r1, q1, L⟩ := by
 subst hm hl hr hq
 show rloop n p j (rstep n p j ⟨r, q, l⟩) = _
 congr 1
 exact if_pos h
theorem rl_high (n p j r q l r1 q1 L m : Nat) (hr : r1 = r * 2 % pw 5) (hq : q1 = q * 4 % pw 5) (hl : L = (l * 2 ^ p + gN n p j) % pw 5) (hm : m = rmore p r1 q1) (h : m ≤ L) :
   rloop n p (j + 1) ⟨r, q, l⟩ = rloop n p j ⟨(r1 * 1 + 1) % pw 5, ((q1 + r1 * 2) % pw 5 * 1 + 1) % pw 5, L - m⟩ := by
 subst hm hl hr hq
 show rloop n p j (rstep n p j ⟨r, q, l⟩) = _
 congr 1
 exact if_neg (Nat.not_lt.2 h)
theorem gN_2_0 (n : Nat) : gN n 2 64 = n % 4 := by
 have := gN_at n 2 0; simpa using this
theorem gN_2_1 (n : Nat) : gN n 2 65 = n / 4 % 4 := gN_at n 2 1
theorem gN_2_2 (n : Nat) : gN n 2 66 = n / 16 % 4 := gN_at n 2 2
set_option maxRecDepth 100000 in
set_option maxHeartbeats 4000000 in
theorem root_2 (n : Nat) (w : World) (hn : n < 1000) :
   Calls Tryz.prog 133 #[.int .i64 (n : Nat), .int .i64 2] w fun e w' => e = .returned (.int .u64 (rootF n 2 : Nat)) ∧ Below w.heap.size w w' := by
 obtain ⟨R, hR⟩ : ∃ R, R = rloop n 2 67 ⟨0, 0, 0⟩ := ⟨_, rfl⟩
 obtain ⟨v, hv⟩ : ∃ v, v = rootF n 2 := ⟨_, rfl⟩
 rw [← hv]
 have HR := Box.mk hR; have HN := Box.mk hn; have HV := Box.mk hv
 clear hR hn hv
 go_enter Tryz.func133, Tryz.ntmps133
 go_upto_region 2 with (fail)
 obtain ⟨A, hA⟩ : ∃ A, A = w.heap.size := ⟨_, rfl⟩
 have st0 : Box (RSt w A 0 0 0 (((w.alloc (.cells #[.int .u64 0, .int .u64 0, .int .u64 0, .int .u64 0, .int .u64 0] 169)).alloc (.cells #[.int .u64 0, .int .u64 0, .int .u64 0, .int .u64 0, .int .u64 0] 169)).alloc (.cells #[.int .u64 0, .int .u64 0, .int .u64 0, .int .u64 0, .int .u64 0] 169))) := by
   refine ⟨⟨?_, ?_, ?_, hA, (((Below.refl _ _).alloc (Nat.le_refl _) _).alloc ?_ _).alloc ?_ _⟩⟩
   · rw [hA]; exact ((BigAt.new w).alloc _).alloc _
   · have := (BigAt.new (w.alloc (.cells #[.int .u64 0, .int .u64 0, .int .u64 0, .int .u64 0, .int .u64 0] 169))).alloc (.cells #[.int .u64 0, .int .u64 0, .int .u64 0, .int .u64 0, .int .u64 0] 169)
     rw [als, ← hA] at this; exact this
   · have := BigAt.new ((w.alloc (.cells #[.int .u64 0, .int .u64 0, .int .u64 0, .int .u64 0, .int .u64 0] 169)).alloc (.cells #[.int .u64 0, .int .u64 0, .int .u64 0, .int .u64 0, .int .u64 0] 169))
     rw [als, als, ← hA] at this; exact this
   · rw [als]; omega
   · rw [als, als]; omega
 rw [show w.heap.size + 1 + 1 = w.heap.size + 2 from rfl, ← hA]
 clear hA
 generalize ((w.alloc (.cells #[.int .u64 0, .int .u64 0, .int .u64 0, .int .u64 0, .int .u64 0] 169)).alloc (.cells #[.int .u64 0, .int .u64 0, .int .u64 0, .int .u64 0, .int .u64 0] 169)).alloc (.cells #[.int .u64 0, .int .u64 0, .int .u64 0, .int .u64 0, .int .u64 0] 169) = w0 at st0 ⊢
 go_wp2_with fail
 go_loopw [8] (fun i wr => ∃ k : Nat, k ≤ 67 ∧ i = .int .i64 ((k : Int) - 1) ∧ ∃ r q l, rloop n 2 k ⟨r, q, l⟩ = R ∧ RSt w A r q l wr) (fun i _ => (intOf i + 1).toNat)
 case atStart => exact ⟨67, by omega, rfl, 0, 0, 0, HR.out.symm, st0.out⟩
 case round =>
   clear st0
   obtain ⟨k, hk, rfl, r, q, l, hx, st⟩ := hrel
   have HX := Box.mk hx; have st := Box.mk st
   clear hx
   by_cases hlt : 0 < k
   · obtain ⟨j, rfl⟩ : ∃ j, k = j + 1 := ⟨k - 1, by omega⟩
     rw [show ((j + 1 : Nat) : Int) - 1 = (j : Int) from by omega]
     clear hlt
     have GL := Box.mk (gN_lt n 2 j (by omega))
     have hw1 : IntKind.u64.wrap ((gN n 2 j : Nat) : Int) = ((gN n 2 j : Nat) : Int) := by rw [IntKind.wrap_u64]; have := GL.out; omega
     go_upto_if 22 with (fail)
     go_cut [9] (fun v wx => v = .int .i64 ((gN n 2 j : Nat) : Int) ∧ RSt w A r q l wx)
     case first =>
       have hn := HN.out
       by_cases hj : j < 64
       · have hjI : ¬ (64 : Int) ≤ (j : Int) := by omega
         have G0 := Box.mk (gN_low n 2 j hj)
         clear hw1 hj
         go_wp2_with fail
         go_meet
         exact ⟨by rw [G0.out]; rfl, st.out⟩
       · clear hw1
         have hj3 : j = 64 ∨ j = 65 ∨ j = 66 := by omega
         have st2 := Box.mk (st.out.onD (Upd.refl [] _).drew (by simp))
         clear hj
         rcases hj3 with rfl | rfl | rfl
         · have GA : Box (gN n 2 64 = n % 4) := ⟨gN_2_0 n⟩
           go_wp2
           go_region
           go_wp2_with fail
           go_meet
           exact ⟨by rw [GA.out]; go_num, st2.out⟩
         · have GA : Box (gN n 2 65 = n / 4 % 4) := ⟨gN_2_1 n⟩
           go_wp2
           go_region
           go_wp2_with fail
           go_meet
           exact ⟨by rw [GA.out]; go_num, st2.out⟩
         · have GA : Box (gN n 2 66 = n / 16 % 4) := ⟨gN_2_2 n⟩
           go_wp2
           go_region
           go_wp2_with fail
           go_meet
           exact ⟨by rw [GA.out]; go_num, st2.out⟩
     case rest =>
       obtain ⟨rfl, st⟩ := hcut
       have st := Box.mk st
       go_wp2_with fail
       refine (grow_any (A + 2) l 4 (gN n 2 j) _ st.out.c (by omega) (by have := GL.out; omega)).mono ?_
       rintro e w1 ⟨rfl, h1, u1⟩
       have st := Box.mk (st.out.onC h1 u1); clear h1 u1
       go_wp2_with fail
       refine (grow_any A r 2 0 _ st.out.a (by omega) (by omega)).mono ?_
       rintro e w2 ⟨rfl, h2, u2⟩
       rw [Nat.add_zero (r * 2)] at h2
       have st := Box.mk (st.out.onA h2 u2); clear h2 u2
       go_wp2_with fail
       refine (grow_any (A + 1) q 4 0 _ st.out.b (by omega) (by omega)).mono ?_
       rintro e w3 ⟨rfl, h3, u3⟩
       rw [Nat.add_zero (q * 4)] at h3
       have st := Box.mk (st.out.onB h3 u3); clear h3 u3
       obtain ⟨L, hL⟩ : ∃ L, L = (l * 4 + gN n 2 j) % pw 5 := ⟨_, rfl⟩
       obtain ⟨r1, hr1⟩ : ∃ x, x = r * 2 % pw 5 := ⟨_, rfl⟩
       obtain ⟨q1, hq1⟩ : ∃ x, x = q * 4 % pw 5 := ⟨_, rfl⟩
       rw [← hL, ← hr1, ← hq1] at st
       have HL := Box.mk hL; have HR1 := Box.mk hr1; have HQ1 := Box.mk hq1
       have bL : Box (L < pw 5) := ⟨by rw [hL]; exact Nat.mod_lt _ (pw_pos 5)⟩
       clear hL hr1 hq1
       go_wp2_with fail
       have hD := Box.mk st.out.ltD
       have st := Box.mk (st.out.alloc (.cells #[.int .u64 0, .int .u64 0, .int .u64 0, .int .u64 0, .int .u64 0] 169))
       have dt := Box.mk (BigAt.new w3)
       obtain ⟨D, hDD⟩ : ∃ D, D = w3.heap.size := ⟨_, rfl⟩
       rw [← hDD] at hD dt ⊢
       clear hDD
       refine (grow_any D 0 1 1 _ dt.out (by omega) (by omega)).mono ?_
       rintro e w4 ⟨rfl, h4, u4⟩
       rw [show (0 * 1 + 1) % pw 5 = 1 from Nat.mod_eq_of_lt one_lt_pw] at h4
       have st := Box.mk (st.out.onD u4 (by intro i hi; have := hD.out; simp at hi; omega))
       have dt := Box.mk h4; clear h4 u4
       go_wp2_with fail
       refine (plus_any D A 1 r1 2 _ dt.out st.out.a (by have := hD.out; omega) (by omega)).mono ?_
       rintro e w5 ⟨rfl, h5, u5⟩
       have st := Box.mk (st.out.onD u5 (by intro i hi; have := hD.out; simp at hi; omega))
       have dt := Box.mk h5; clear h5 u5
       obtain ⟨m, hm⟩ : ∃ x, x = (1 + r1 * 2) % pw 5 := ⟨_, rfl⟩
       rw [← hm] at dt
       have bm : Box (m < pw 5) := ⟨by rw [hm]; exact Nat.mod_lt _ (pw_pos 5)⟩
       have HM : Box (m = rmore 2 r1 q1) := ⟨by rw [hm]; rfl⟩
       clear hm
       have hbe := fun wx h1 h2 => below_any (A + 2) D L m wx h1 h2 bL.out bm.out
       by_cases hlm : L < m
       · rw [decide_eq_true hlm] at hbe
         have HLM := Box.mk hlm; clear hlm
         have hbe := Box.mk hbe
         go_wp2_with fail
         refine (hbe.out _ st.out.c dt.out).mono ?_
         rintro e w7 ⟨rfl, u7⟩
         have st := Box.mk (st.out.onD u7 (by simp))
         clear u7 hbe
         go_wp2_with fail
         refine ⟨⟨j, by omega, by go_num, r1, q1, L, ?_, st.out⟩, by simp [intOf]⟩
         rw [← HX.out]; exact (rl_low n 2 j r q l r1 q1 L m HR1.out HQ1.out HL.out HM.out HLM.out).symm
       · rw [decide_eq_false hlm] at hbe
         have HLM := Box.mk (show m ≤ L by omega); clear hlm
         have hbe := Box.mk hbe
         go_wp2_with fail
         refine (hbe.out _ st.out.c dt.out).mono ?_
         rintro e w7 ⟨rfl, u7⟩
         have st := Box.mk (st.out.onD u7 (by simp))
         have dt := Box.mk (dt.out.keep u7 (by simp))
         clear u7 hbe
         go_wp2_with fail
         refine (less_any (A + 2) D L m _ st.out.c dt.out (by have := hD.out; omega) HLM.out).mono ?_
         rintro e w8 ⟨rfl, h8, u8⟩
         have st := Box.mk (st.out.onC h8 u8); clear h8 u8 dt
         go_wp2_with fail
         refine (plus_any (A + 1) A q1 r1 2 _ st.out.b st.out.a (by omega) (by omega)).mono ?_
         rintro e w9 ⟨rfl, h9, u9⟩
         have st := Box.mk (st.out.onB h9 u9); clear h9 u9
         go_wp2_with fail
         refine (grow_any (A + 1) ((q1 + r1 * 2) % pw 5) 1 1 _ st.out.b (by omega) (by omega)).mono ?_
         rintro e w10 ⟨rfl, h10, u10⟩
         have st := Box.mk (st.out.onB h10 u10); clear h10 u10
         go_wp2_with fail
         refine (grow_any A r1 1 1 _ st.out.a (by omega) (by omega)).mono ?_
         rintro e w11 ⟨rfl, h11, u11⟩
         have st := Box.mk (st.out.onA h11 u11); clear h11 u11
         go_wp2_with fail
         refine ⟨⟨j, by omega, by go_num, (r1 * 1 + 1) % pw 5, ((q1 + r1 * 2) % pw 5 * 1 + 1) % pw 5, L - m, ?_, st.out⟩, by simp [intOf]⟩
         rw [← HX.out]; exact (rl_high n 2 j r q l r1 q1 L m HR1.out HQ1.out HL.out HM.out HLM.out).symm
   · obtain rfl : k = 0 := by omega
     have HX2 : Box (r = R.r) := ⟨by rw [← HX.out]; rfl⟩
     clear hlt
     have c0 : wr.cell? ⟨A, 0, none⟩ = some (.int .u64 (bd r 0 : Nat)) := by
       rw [cell_of_row _ _ _ _ _ _ st.out.a, gcell_get _ _ (by omega)]
     have c1 : wr.cell? ⟨A, 1, none⟩ = some (.int .u64 (bd r 1 : Nat)) := by
       rw [cell_of_row _ _ _ _ _ _ st.out.a, gcell_get _ _ (by omega)]
     have h0 := bd_lt r 0; have h1 := bd_lt r 1
     have HV : Box (bd r 0 + bd r 1 * 4294967296 = v) := ⟨by
       rw [HV.out]; unfold rootF; rw [← HR.out, ← HX2.out]; exact dig2 r⟩
     obtain ⟨a, ha⟩ : ∃ a, a = bd r 0 := ⟨_, rfl⟩
     obtain ⟨b, hb⟩ : ∃ a, a = bd r 1 := ⟨_, rfl⟩
     rw [← ha] at c0 h0 HV
     rw [← hb] at c1 h1 HV
     clear ha hb
     have hv := HV.out
     obtain ⟨c, hc⟩ : ∃ c, c = b * 4294967296 := ⟨_, rfl⟩
     have hw1 : IntKind.u64.wrap ((b : Int) * 4294967296) = (c : Int) := by rw [IntKind.wrap_u64]; omega
     have hw2 : IntKind.u64.wrap ((a : Int) + (c : Int)) = (v : Int) := by rw [IntKind.wrap_u64]; omega
     clear hv hc h0 h1
     go_wp2
     go_quiet (fail)
     go_wp2
     go_ret
     exact ⟨rfl, Upd.below st.out.bel ((Upd.refl [] _).drewN _) (by simp) st.out.bel.size⟩
theorem gN_3_0 (n : Nat) : gN n 3 64 = n % 8 := by
 have := gN_at n 3 0; simpa using this
theorem gN_3_1 (n : Nat) : gN n 3 65 = n / 8 % 8 := gN_at n 3 1
theorem gN_3_2 (n : Nat) : gN n 3 66 = n / 64 % 8 := gN_at n 3 2
set_option maxRecDepth 100000 in
set_option maxHeartbeats 4000000 in
theorem root_3 (n : Nat) (w : World) (hn : n < 1000) :
   Calls Tryz.prog 133 #[.int .i64 (n : Nat), .int .i64 3] w fun e w' => e = .returned (.int .u64 (rootF n 3 : Nat)) ∧ Below w.heap.size w w' := by
 obtain ⟨R, hR⟩ : ∃ R, R = rloop n 3 67 ⟨0, 0, 0⟩ := ⟨_, rfl⟩
 obtain ⟨v, hv⟩ : ∃ v, v = rootF n 3 := ⟨_, rfl⟩
 rw [← hv]
 have HR := Box.mk hR; have HN := Box.mk hn; have HV := Box.mk hv
 clear hR hn hv
 go_enter Tryz.func133, Tryz.ntmps133
 go_upto_region 2 with (fail)
 obtain ⟨A, hA⟩ : ∃ A, A = w.heap.size := ⟨_, rfl⟩
 have st0 : Box (RSt w A 0 0 0 (((w.alloc (.cells #[.int .u64 0, .int .u64 0, .int .u64 0, .int .u64 0, .int .u64 0] 169)).alloc (.cells #[.int .u64 0, .int .u64 0, .int .u64 0, .int .u64 0, .int .u64 0] 169)).alloc (.cells #[.int .u64 0, .int .u64 0, .int .u64 0, .int .u64 0, .int .u64 0] 169))) := by
   refine ⟨⟨?_, ?_, ?_, hA, (((Below.refl _ _).alloc (Nat.le_refl _) _).alloc ?_ _).alloc ?_ _⟩⟩
   · rw [hA]; exact ((BigAt.new w).alloc _).alloc _
   · have := (BigAt.new (w.alloc (.cells #[.int .u64 0, .int .u64 0, .int .u64 0, .int .u64 0, .int .u64 0] 169))).alloc (.cells #[.int .u64 0, .int .u64 0, .int .u64 0, .int .u64 0, .int .u64 0] 169)
     rw [als, ← hA] at this; exact this
   · have := BigAt.new ((w.alloc (.cells #[.int .u64 0, .int .u64 0, .int .u64 0, .int .u64 0, .int .u64 0] 169)).alloc (.cells #[.int .u64 0, .int .u64 0, .int .u64 0, .int .u64 0, .int .u64 0] 169))
     rw [als, als, ← hA] at this; exact this
   · rw [als]; omega
   · rw [als, als]; omega
 rw [show w.heap.size + 1 + 1 = w.heap.size + 2 from rfl, ← hA]
 clear hA
 generalize ((w.alloc (.cells #[.int .u64 0, .int .u64 0, .int .u64 0, .int .u64 0, .int .u64 0] 169)).alloc (.cells #[.int .u64 0, .int .u64 0, .int .u64 0, .int .u64 0, .int .u64 0] 169)).alloc (.cells #[.int .u64 0, .int .u64 0, .int .u64 0, .int .u64 0, .int .u64 0] 169) = w0 at st0 ⊢
 go_wp2_with fail
 go_loopw [8] (fun i wr => ∃ k : Nat, k ≤ 67 ∧ i = .int .i64 ((k : Int) - 1) ∧ ∃ r q l, rloop n 3 k ⟨r, q, l⟩ = R ∧ RSt w A r q l wr) (fun i _ => (intOf i + 1).toNat)
 case atStart => exact ⟨67, by omega, rfl, 0, 0, 0, HR.out.symm, st0.out⟩
 case round =>
   clear st0
   obtain ⟨k, hk, rfl, r, q, l, hx, st⟩ := hrel
   have HX := Box.mk hx; have st := Box.mk st
   clear hx
   by_cases hlt : 0 < k
   · obtain ⟨j, rfl⟩ : ∃ j, k = j + 1 := ⟨k - 1, by omega⟩
     rw [show ((j + 1 : Nat) : Int) - 1 = (j : Int) from by omega]
     clear hlt
     have GL := Box.mk (gN_lt n 3 j (by omega))
     have hw1 : IntKind.u64.wrap ((gN n 3 j : Nat) : Int) = ((gN n 3 j : Nat) : Int) := by rw [IntKind.wrap_u64]; have := GL.out; omega
     go_upto_if 22 with (fail)
     go_cut [9] (fun v wx => v = .int .i64 ((gN n 3 j : Nat) : Int) ∧ RSt w A r q l wx)
     case first =>
       have hn := HN.out
       by_cases hj : j < 64
       · have hjI : ¬ (64 : Int) ≤ (j : Int) := by omega
         have G0 := Box.mk (gN_low n 3 j hj)
         clear hw1 hj
         go_wp2_with fail
         go_meet
         exact ⟨by rw [G0.out]; rfl, st.out⟩
       · clear hw1
         have hj3 : j = 64 ∨ j = 65 ∨ j = 66 := by omega
         have st2 := Box.mk (st.out.onD (Upd.refl [] _).drew (by simp))
         clear hj
         rcases hj3 with rfl | rfl | rfl
         · have GA : Box (gN n 3 64 = n % 8) := ⟨gN_3_0 n⟩
           go_wp2
           go_region
           go_wp2_with fail
           go_meet
           exact ⟨by rw [GA.out]; go_num, st2.out⟩
         · have GA : Box (gN n 3 65 = n / 8 % 8) := ⟨gN_3_1 n⟩
           go_wp2
           go_region
           go_wp2_with fail
           go_meet
           exact ⟨by rw [GA.out]; go_num, st2.out⟩
         · have GA : Box (gN n 3 66 = n / 64 % 8) := ⟨gN_3_2 n⟩
           go_wp2
           go_region
           go_wp2_with fail
           go_meet
           exact ⟨by rw [GA.out]; go_num, st2.out⟩
     case rest =>
       obtain ⟨rfl, st⟩ := hcut
       have st := Box.mk st
       go_wp2_with fail
       refine (grow_any (A + 2) l 8 (gN n 3 j) _ st.out.c (by omega) (by have := GL.out; omega)).mono ?_
       rintro e w1 ⟨rfl, h1, u1⟩
       have st := Box.mk (st.out.onC h1 u1); clear h1 u1
       go_wp2_with fail
       refine (grow_any A r 2 0 _ st.out.a (by omega) (by omega)).mono ?_
       rintro e w2 ⟨rfl, h2, u2⟩
       rw [Nat.add_zero (r * 2)] at h2
       have st := Box.mk (st.out.onA h2 u2); clear h2 u2
       go_wp2_with fail
       refine (grow_any (A + 1) q 4 0 _ st.out.b (by omega) (by omega)).mono ?_
       rintro e w3 ⟨rfl, h3, u3⟩
       rw [Nat.add_zero (q * 4)] at h3
       have st := Box.mk (st.out.onB h3 u3); clear h3 u3
       obtain ⟨L, hL⟩ : ∃ L, L = (l * 8 + gN n 3 j) % pw 5 := ⟨_, rfl⟩
       obtain ⟨r1, hr1⟩ : ∃ x, x = r * 2 % pw 5 := ⟨_, rfl⟩
       obtain ⟨q1, hq1⟩ : ∃ x, x = q * 4 % pw 5 := ⟨_, rfl⟩
       rw [← hL, ← hr1, ← hq1] at st
       have HL := Box.mk hL; have HR1 := Box.mk hr1; have HQ1 := Box.mk hq1
       have bL : Box (L < pw 5) := ⟨by rw [hL]; exact Nat.mod_lt _ (pw_pos 5)⟩
       clear hL hr1 hq1
       go_wp2_with fail
       have hD := Box.mk st.out.ltD
       have st := Box.mk (st.out.alloc (.cells #[.int .u64 0, .int .u64 0, .int .u64 0, .int .u64 0, .int .u64 0] 169))
       have dt := Box.mk (BigAt.new w3)
       obtain ⟨D, hDD⟩ : ∃ D, D = w3.heap.size := ⟨_, rfl⟩
       rw [← hDD] at hD dt ⊢
       clear hDD
       refine (grow_any D 0 1 1 _ dt.out (by omega) (by omega)).mono ?_
       rintro e w4 ⟨rfl, h4, u4⟩
       rw [show (0 * 1 + 1) % pw 5 = 1 from Nat.mod_eq_of_lt one_lt_pw] at h4
       have st := Box.mk (st.out.onD u4 (by intro i hi; have := hD.out; simp at hi; omega))
       have dt := Box.mk h4; clear h4 u4
       go_wp2_with fail
       refine (plus_any D A 1 r1 3 _ dt.out st.out.a (by have := hD.out; omega) (by omega)).mono ?_
       rintro e w5 ⟨rfl, h5, u5⟩
       have st := Box.mk (st.out.onD u5 (by intro i hi; have := hD.out; simp at hi; omega))
       have dt := Box.mk h5; clear h5 u5
       go_wp2_with fail
       refine (plus_any D (A + 1) ((1 + r1 * 3) % pw 5) q1 3 _ dt.out st.out.b (by have := hD.out; omega) (by omega)).mono ?_
       rintro e w6 ⟨rfl, h6, u6⟩
       have st := Box.mk (st.out.onD u6 (by intro i hi; have := hD.out; simp at hi; omega))
       have dt := Box.mk h6; clear h6 u6
       obtain ⟨m, hm⟩ : ∃ x, x = ((1 + r1 * 3) % pw 5 + q1 * 3) % pw 5 := ⟨_, rfl⟩
       rw [← hm] at dt
       have bm : Box (m < pw 5) := ⟨by rw [hm]; exact Nat.mod_lt _ (pw_pos 5)⟩
       have HM : Box (m = rmore 3 r1 q1) := ⟨by rw [hm]; rfl⟩
       clear hm
       have hbe := fun wx h1 h2 => below_any (A + 2) D L m wx h1 h2 bL.out bm.out
       by_cases hlm : L < m
       · rw [decide_eq_true hlm] at hbe
         have HLM := Box.mk hlm; clear hlm
         have hbe := Box.mk hbe
         go_wp2_with fail
         refine (hbe.out _ st.out.c dt.out).mono ?_
         rintro e w7 ⟨rfl, u7⟩
         have st := Box.mk (st.out.onD u7 (by simp))
         clear u7 hbe
         go_wp2_with fail
         refine ⟨⟨j, by omega, by go_num, r1, q1, L, ?_, st.out⟩, by simp [intOf]⟩
         rw [← HX.out]; exact (rl_low n 3 j r q l r1 q1 L m HR1.out HQ1.out HL.out HM.out HLM.out).symm
       · rw [decide_eq_false hlm] at hbe
         have HLM := Box.mk (show m ≤ L by omega); clear hlm
         have hbe := Box.mk hbe
         go_wp2_with fail
         refine (hbe.out _ st.out.c dt.out).mono ?_
         rintro e w7 ⟨rfl, u7⟩
         have st := Box.mk (st.out.onD u7 (by simp))
         have dt := Box.mk (dt.out.keep u7 (by simp))
         clear u7 hbe
         go_wp2_with fail
         refine (less_any (A + 2) D L m _ st.out.c dt.out (by have := hD.out; omega) HLM.out).mono ?_
         rintro e w8 ⟨rfl, h8, u8⟩
         have st := Box.mk (st.out.onC h8 u8); clear h8 u8 dt
         go_wp2_with fail
         refine (plus_any (A + 1) A q1 r1 2 _ st.out.b st.out.a (by omega) (by omega)).mono ?_
         rintro e w9 ⟨rfl, h9, u9⟩
         have st := Box.mk (st.out.onB h9 u9); clear h9 u9
         go_wp2_with fail
         refine (grow_any (A + 1) ((q1 + r1 * 2) % pw 5) 1 1 _ st.out.b (by omega) (by omega)).mono ?_
         rintro e w10 ⟨rfl, h10, u10⟩
         have st := Box.mk (st.out.onB h10 u10); clear h10 u10
         go_wp2_with fail
         refine (grow_any A r1 1 1 _ st.out.a (by omega) (by omega)).mono ?_
         rintro e w11 ⟨rfl, h11, u11⟩
         have st := Box.mk (st.out.onA h11 u11); clear h11 u11
         go_wp2_with fail
         refine ⟨⟨j, by omega, by go_num, (r1 * 1 + 1) % pw 5, ((q1 + r1 * 2) % pw 5 * 1 + 1) % pw 5, L - m, ?_, st.out⟩, by simp [intOf]⟩
         rw [← HX.out]; exact (rl_high n 3 j r q l r1 q1 L m HR1.out HQ1.out HL.out HM.out HLM.out).symm
   · obtain rfl : k = 0 := by omega
     have HX2 : Box (r = R.r) := ⟨by rw [← HX.out]; rfl⟩
     clear hlt
     have c0 : wr.cell? ⟨A, 0, none⟩ = some (.int .u64 (bd r 0 : Nat)) := by
       rw [cell_of_row _ _ _ _ _ _ st.out.a, gcell_get _ _ (by omega)]
     have c1 : wr.cell? ⟨A, 1, none⟩ = some (.int .u64 (bd r 1 : Nat)) := by
       rw [cell_of_row _ _ _ _ _ _ st.out.a, gcell_get _ _ (by omega)]
     have h0 := bd_lt r 0; have h1 := bd_lt r 1
     have HV : Box (bd r 0 + bd r 1 * 4294967296 = v) := ⟨by
       rw [HV.out]; unfold rootF; rw [← HR.out, ← HX2.out]; exact dig2 r⟩
     obtain ⟨a, ha⟩ : ∃ a, a = bd r 0 := ⟨_, rfl⟩
     obtain ⟨b, hb⟩ : ∃ a, a = bd r 1 := ⟨_, rfl⟩
     rw [← ha] at c0 h0 HV
     rw [← hb] at c1 h1 HV
     clear ha hb
     have hv := HV.out
     obtain ⟨c, hc⟩ : ∃ c, c = b * 4294967296 := ⟨_, rfl⟩
     have hw1 : IntKind.u64.wrap ((b : Int) * 4294967296) = (c : Int) := by rw [IntKind.wrap_u64]; omega
     have hw2 : IntKind.u64.wrap ((a : Int) + (c : Int)) = (v : Int) := by rw [IntKind.wrap_u64]; omega
     clear hv hc h0 h1
     go_wp2
     go_quiet (fail)
     go_wp2
     go_ret
     exact ⟨rfl, Upd.below st.out.bel ((Upd.refl [] _).drewN _) (by simp) st.out.bel.size⟩
open Go Go.RowKit
open Sha (T3 Sh rotr big sml)
structure KV where
 W : Nat
 s : Sh
 K : Value
 H : Value
def iv (n : Nat) : Value := .int .i64 (n : Nat)
def tc (t : T3) : Array Value := #[iv t.a, iv t.b, iv t.c]
def kc (k : KV) : Array Value := #[iv k.W, iv k.s.a.a, iv k.s.a.b, iv k.s.a.c, iv k.s.b.a, iv k.s.b.b, iv k.s.b.c, iv k.s.c.a, iv k.s.c.b, iv k.s.c.c, iv k.s.d.a, iv k.s.d.b, iv k.s.d.c, k.K, k.H]
theorem kc_info : (Tryz.prog.info? 141).map (·.size) = some 15 := by kernel_rfl
theorem cellG {W w : World} {S : List Nat} (hw : GrS S W w) {b : Nat} {cs : Array Value} {t : TypeId} {fr : Nat × Nat} (hb : W.heap[b]? = some (.cells cs t fr)) (hn : b ∉ S) (i : Nat) : w.cell? ⟨b, i, none⟩ = cs[i]? :=
 cell_of_row _ _ _ _ _ _ (hw.at hn hb)
section
variable {W : World} {S : List Nat} {T : (World → Prop) → List Nat → Act → Prop} {L : List (Oper × Kd)} {F : World → Prop} {N : List Nat} {a : Act} {o : Oper}
theorem gm_loadK (x : Operand) (ho : o.op = .load 141 x) (b : Nat) (k : KV) (hb : W.heap[b]? = some (.cells (kc k) 141 (0, 0))) (hbS : b ∉ S) (hx : a.eval x = .pointer (some ⟨b, 0, none⟩))
   (h : wpG Tryz.prog W S T L F N (a.put o.dst (.agg (kc k)))) : wpG Tryz.prog W S T ((o, .flo) :: L) F N a :=
 gm_loadS x ho b (kc k) 141 (0, 0) _ hb hbS hx Tryz.underlying141 rfl kc_info h
end
theorem pw_le {W : Nat} (hW : W = 32 ∨ W = 64) : 2 ^ W ≤ 18446744073709551616 := by rcases hW with rfl | rfl <;> decide
theorem rot_b1 {W x n p : Nat} (hW : W = 32 ∨ W = 64) (hx : x < 2 ^ W) (hp : p = x / 2 ^ n) : p < 18446744073709551616 := by
 have := pw_le hW; have := Nat.div_le_self x (2 ^ n); omega
theorem rot_fin {W x n s : Nat} (hW : W = 32 ∨ W = 64) (hx : x < 2 ^ W) (hn : n + s = W) : (x / 2 ^ n ||| x * 2 ^ s % 18446744073709551616) % 2 ^ W = rotr W x n := by
 unfold rotr
 rw [Nat.or_mod_two_pow, Nat.mod_eq_of_lt (Nat.lt_of_le_of_lt (Nat.div_le_self _ _) hx), show W - n = s by omega, Nat.mod_mod_of_dvd _ (by rcases hW with rfl | rfl <;> decide)]
theorem rotr_lt {W x n : Nat} (hx : x < 2 ^ W) : rotr W x n < 2 ^ W := Nat.or_lt_two_pow (Nat.lt_of_le_of_lt (Nat.div_le_self _ _) hx) (Nat.mod_lt _ (Nat.two_pow_pos _))
set_option maxRecDepth 100000 in
set_option maxHeartbeats 2000000 in
theorem word_any (k : KV) (hW : k.W = 32 ∨ k.W = 64) (x : Nat) (hx : x < 18446744073709551616) (w : World) :
   Calls Tryz.prog 134 #[.agg (kc k), .int .u64 (x : Nat)] w fun e w' => e = .returned (.int .u64 (x % 2 ^ k.W : Nat)) ∧ Below w.heap.size w w' := by
 have hc : (w.alloc (.cells (kc k) 141)).cell? ⟨w.heap.size, 0, none⟩ = some (iv k.W) := (cell_of_row _ _ _ _ _ _ (heap_alloc_new w _)).trans rfl
 unfold iv at hc
 have hb : Below w.heap.size w (w.alloc (.cells (kc k) 141)) := (Below.refl _ _).alloc (Nat.le_refl _) _
 have HB := Box.mk hb; clear hb
 obtain ⟨z, hz⟩ : ∃ z, z = x % 2 ^ k.W := ⟨_, rfl⟩
 rw [← hz]
 rcases hW with hW | hW
 · obtain ⟨y, hy⟩ : ∃ y, y = x * 4294967296 % 18446744073709551616 := ⟨_, rfl⟩
   rw [hW] at hc hz
   have hw1 : IntKind.u64.wrap ((x : Int) * 4294967296) = (y : Int) := by rw [IntKind.wrap_u64]; omega
   have hw2 : (y : Int) / 4294967296 = (z : Int) := by omega
   clear hy hz hx
   go_enter Tryz.func134, Tryz.ntmps134
   go_wp2
   go_quiet (fail)
   go_wp2
   go_ret
   exact ⟨rfl, Upd.below HB.out ((Upd.refl [] _).drewN _) (by simp) HB.out.size⟩
 · rw [hW] at hc hz
   have hw1 : IntKind.u64.wrap (x : Int) = (z : Int) := by rw [IntKind.wrap_u64]; omega
   clear hz hx
   go_enter Tryz.func134, Tryz.ntmps134
   go_wp2
   go_quiet (fail)
   go_wp2
   go_ret
   exact ⟨rfl, Upd.below HB.out ((Upd.refl [] _).drewN _) (by simp) HB.out.size⟩
set_option maxRecDepth 100000 in
set_option maxHeartbeats 2000000 in
theorem rot_any (k : KV) (hW : k.W = 32 ∨ k.W = 64) (x n : Nat) (hx : x < 2 ^ k.W) (hn : n ≤ k.W) (w : World) :
   Calls Tryz.prog 144 #[.agg (kc k), .int .u64 (x : Nat), .int .i64 (n : Nat)] w fun e w' => e = .returned (.int .u64 (rotr k.W x n : Nat)) ∧ Below w.heap.size w w' := by
 obtain ⟨V, hV⟩ : ∃ V, V = rotr k.W x n := ⟨_, rfl⟩
 rw [← hV]
 obtain ⟨s, hs⟩ : ∃ s, n + s = k.W := ⟨k.W - n, by omega⟩
 have hws : IntKind.i64.wrap ((k.W : Int) - (n : Int)) = (s : Int) := by rw [IntKind.wrap_i64]; omega
 obtain ⟨p, hp⟩ : ∃ p, p = x / 2 ^ n := ⟨_, rfl⟩
 obtain ⟨q, hq⟩ : ∃ q, q = x * 2 ^ s % 18446744073709551616 := ⟨_, rfl⟩
 have hn64 : n ≤ 64 := by omega
 have hs64 : s ≤ 64 := by omega
 have hpI : (x : Int) / 2 ^ min n 64 = (p : Int) := by rw [hp, Nat.min_eq_left hn64]; simp
 have hqI : IntKind.u64.wrap ((x : Int) * 2 ^ min s 64) = (q : Int) := by rw [hq, IntKind.wrap_u64, Nat.min_eq_left hs64]; simp
 have hor : bits .or .u64 (p : Int) (q : Int) = ((p ||| q : Nat) : Int) := u64_or_nat p q (rot_b1 hW hx hp) (by omega)
 have hfin : (p ||| q) % 2 ^ k.W = V := by rw [hV, hp, hq]; exact rot_fin hW hx hs
 have hlt : p ||| q < 18446744073709551616 := Nat.or_lt_two_pow (n := 64) (rot_b1 hW hx hp) (by omega)
 obtain ⟨o, ho⟩ : ∃ o, o = p ||| q := ⟨_, rfl⟩
 rw [← ho] at hor hfin hlt
 have HV := Box.mk hfin; have HL := Box.mk hlt
 clear hp hq hx hV hn ho hfin hlt hs hn64 hs64
 go_enter Tryz.func144, Tryz.ntmps144
 go_upto_region 1 with (fail)
 obtain ⟨b, hb⟩ : ∃ b, b = w.heap.size := ⟨_, rfl⟩
 rw [← hb]
 have HB : Box ((w.alloc (.cells (kc k) 141)).drew.heap[b]? = some (.cells (kc k) 141 (0, 0))) := ⟨by rw [hb]; exact heap_alloc_new w _⟩
 have B0 : Box (Below w.heap.size w (w.alloc (.cells (kc k) 141)).drew) := ⟨((Below.refl _ _).alloc (Nat.le_refl _) _).drew⟩
 clear hb
 generalize w.alloc (.cells (kc k) 141) = w0 at HB B0 ⊢
 refine wp_region_mix 12 [.flo, .flo, .flo, .flo, .flo, .flo, .flo, .flo, .flo, .flo, .flo, .cha] (by kernel_rfl) (by kernel_rfl) rfl ?_
 simp only [List.take, List.zip, List.zipWith]
 try go_frame
 refine gm_loadK (.tmp 3) rfl b k HB.out (by simp) rfl ?_
 try go_frame
 refine gm_flo (.int .u64 (x : Nat)) (fun w1 hw1 => ?_) ?_
 case refine_1 =>
   go_simp
 try go_frame
 refine gm_flo (.int .i64 (n : Nat)) (fun w1 hw1 => ?_) ?_
 case refine_1 =>
   go_simp
 try go_frame
 refine gm_flo (.int .u64 (p : Nat)) (fun w1 hw1 => ?_) ?_
 case refine_1 =>
   go_simp
 try go_frame
 refine gm_flo (.int .u64 (x : Nat)) (fun w1 hw1 => ?_) ?_
 case refine_1 =>
   go_simp
 try go_frame
 refine gm_flo (.pointer (some ⟨b, 0, none⟩)) (fun w1 hw1 => ?_) ?_
 case refine_1 =>
   go_simp
 try go_frame
 refine gm_flo (.int .i64 (k.W : Nat)) (fun w1 hw1 => ?_) ?_
 case refine_1 =>
   have hc : w1.cell? ⟨b, 0, none⟩ = some (.int .i64 (k.W : Nat)) := cellG hw1 HB.out (by simp) 0
   go_simp
 try go_frame
 refine gm_flo (.int .i64 (n : Nat)) (fun w1 hw1 => ?_) ?_
 case refine_1 =>
   go_simp
 try go_frame
 refine gm_flo (.int .i64 (s : Nat)) (fun w1 hw1 => ?_) ?_
 case refine_1 =>
   go_simp
 try go_frame
 refine gm_flo (.int .u64 (q : Nat)) (fun w1 hw1 => ?_) ?_
 case refine_1 =>
   go_simp
 try go_frame
 refine gm_flo (.int .u64 (o : Nat)) (fun w1 hw1 => ?_) ?_
 case refine_1 =>
   go_simp
 try go_frame
 refine gm_call [.agg (kc k), .int .u64 (o : Nat)] (by kernel_rfl) rfl rfl Stb.tt (fun w1 hw1 hF1 => (word_any k hW o HL.out w1).mono ?_)
 rintro e w2 ⟨rfl, hw2⟩
 refine ⟨_, rfl, hw2, ?_⟩
 clear hw1 hF1 w1 hw2 w2
 try go_frame
 refine gm_nil ?_
 intro w9 hw9 hF9
 simp only [List.drop]
 try go_frame
 go_wp2
 go_ret
 exact ⟨by rw [HV.out]; rfl, B0.out.trans (hw9.below.mono B0.out.size)⟩
set_option maxRecDepth 100000 in
set_option maxHeartbeats 2000000 in
theorem three_any (k : KV) (hW : k.W = 32 ∨ k.W = 64) (x : Nat) (t : T3) (hx : x < 2 ^ k.W) (ha : t.a ≤ k.W) (hb : t.b ≤ k.W) (hc : t.c ≤ k.W) (w : World) :
   Calls Tryz.prog 136 #[.agg (kc k), .int .u64 (x : Nat), .agg (tc t)] w fun e w' => e = .returned (.int .u64 (big k.W x t : Nat)) ∧ Below w.heap.size w w' := by
 obtain ⟨V, hV⟩ : ∃ V, V = big k.W x t := ⟨_, rfl⟩
 rw [← hV]
 have hl := pw_le hW
 have C0 := Box.mk (rot_any k hW x t.a hx ha); have C1 := Box.mk (rot_any k hW x t.b hx hb); have C2 := Box.mk (rot_any k hW x t.c hx hc)
 have l0 := rotr_lt (n := t.a) hx; have l1 := rotr_lt (n := t.b) hx; have l2 : rotr k.W x t.c < 2 ^ k.W := rotr_lt hx
 unfold big at hV
 generalize rotr k.W x t.a = r0 at C0 l0 hV
 generalize rotr k.W x t.b = r1 at C1 l1 hV
 generalize rotr k.W x t.c = r2 at C2 l2 hV
 have hx1 := u64_xor_nat r0 r1 (by omega) (by omega)
 have lx : r0 ^^^ r1 < 18446744073709551616 := Nat.xor_lt_two_pow (n := 64) (by omega) (by omega)
 obtain ⟨y, hy⟩ : ∃ y, y = r0 ^^^ r1 := ⟨_, rfl⟩
 rw [← hy] at hx1 hV lx
 have hx2 := u64_xor_nat y r2 lx (by omega)
 rw [← hV] at hx2
 clear hy hV l0 l1 l2 lx hl hx ha hb hc
 go_enter Tryz.func136, Tryz.ntmps136
 go_upto_region 1 with (fail)
 have HB : Box (((w.alloc (.cells (kc k) 141)).alloc (.cells (tc t) 139)).drew.heap[w.heap.size]? = some (.cells (kc k) 141 (0, 0))) := ⟨(heap_alloc_old _ _ (by simp)).trans (heap_alloc_new w _)⟩
 have HC : Box (((w.alloc (.cells (kc k) 141)).alloc (.cells (tc t) 139)).drew.heap[w.heap.size + 1]? = some (.cells (tc t) 139 (0, 0))) := ⟨by
   have := heap_alloc_new (w.alloc (.cells (kc k) 141)) (.cells (tc t) 139)
   rw [show (w.alloc (.cells (kc k) 141)).heap.size = w.heap.size + 1 by simp] at this; exact this⟩
 have B0 : Box (Below w.heap.size w ((w.alloc (.cells (kc k) 141)).alloc (.cells (tc t) 139)).drew) := ⟨(((Below.refl _ _).alloc (Nat.le_refl _) _).alloc (by simp) _).drew⟩
 obtain ⟨c, hc⟩ : ∃ b, b = w.heap.size + 1 := ⟨_, rfl⟩
 rw [← hc] at HC ⊢
 obtain ⟨b, hb⟩ : ∃ b, b = w.heap.size := ⟨_, rfl⟩
 rw [← hb] at HB ⊢
 clear hb hc
 generalize (w.alloc (.cells (kc k) 141)).alloc (.cells (tc t) 139) = w0 at HB HC B0 ⊢
 refine wp_region_mix 17 [.flo, .flo, .flo, .flo, .cha, .flo, .flo, .flo, .flo, .cha, .flo, .flo, .flo, .flo, .flo, .cha, .flo] (by kernel_rfl) (by kernel_rfl) rfl ?_
 simp only [List.take, List.zip, List.zipWith]
 try go_frame
 refine gm_loadK (.tmp 3) rfl b k HB.out (by simp) rfl ?_
 try go_frame
 refine gm_flo (.int .u64 (x : Nat)) (fun w1 hw1 => ?_) ?_
 case refine_1 =>
   go_simp
 try go_frame
 refine gm_flo (.pointer (some ⟨c, 0, none⟩)) (fun w1 hw1 => ?_) ?_
 case refine_1 =>
   go_simp
 try go_frame
 refine gm_flo (.int .i64 (t.a : Nat)) (fun w1 hw1 => ?_) ?_
 case refine_1 =>
   have hc : w1.cell? ⟨c, 0, none⟩ = some (.int .i64 (t.a : Nat)) := cellG hw1 HC.out (by simp) 0
   go_simp
 try go_frame
 refine gm_call [.agg (kc k), .int .u64 (x : Nat), .int .i64 (t.a : Nat)] (by kernel_rfl) rfl rfl Stb.tt (fun w1 hw1 hF1 => (C0.out w1).mono ?_)
 rintro e w2 ⟨rfl, hw2⟩
 refine ⟨_, rfl, hw2, ?_⟩
 clear hw1 hF1 w1 hw2 w2
 try go_frame
 refine gm_loadK (.tmp 3) rfl b k HB.out (by simp) rfl ?_
 try go_frame
 refine gm_flo (.int .u64 (x : Nat)) (fun w1 hw1 => ?_) ?_
 case refine_1 =>
   go_simp
 try go_frame
 refine gm_flo (.pointer (some ⟨c, 1, none⟩)) (fun w1 hw1 => ?_) ?_
 case refine_1 =>
   go_simp
 try go_frame
 refine gm_flo (.int .i64 (t.b : Nat)) (fun w1 hw1 => ?_) ?_
 case refine_1 =>
   have hc : w1.cell? ⟨c, 1, none⟩ = some (.int .i64 (t.b : Nat)) := cellG hw1 HC.out (by simp) 1
   go_simp
 try go_frame
 refine gm_call [.agg (kc k), .int .u64 (x : Nat), .int .i64 (t.b : Nat)] (by kernel_rfl) rfl rfl Stb.tt (fun w1 hw1 hF1 => (C1.out w1).mono ?_)
 rintro e w2 ⟨rfl, hw2⟩
 refine ⟨_, rfl, hw2, ?_⟩
 clear hw1 hF1 w1 hw2 w2
 try go_frame
 refine gm_flo (.int .u64 (y : Nat)) (fun w1 hw1 => ?_) ?_
 case refine_1 =>
   go_simp
 try go_frame
 refine gm_loadK (.tmp 3) rfl b k HB.out (by simp) rfl ?_
 try go_frame
 refine gm_flo (.int .u64 (x : Nat)) (fun w1 hw1 => ?_) ?_
 case refine_1 =>
   go_simp
 try go_frame
 refine gm_flo (.pointer (some ⟨c, 2, none⟩)) (fun w1 hw1 => ?_) ?_
 case refine_1 =>
   go_simp
 try go_frame
 refine gm_flo (.int .i64 (t.c : Nat)) (fun w1 hw1 => ?_) ?_
 case refine_1 =>
   have hc : w1.cell? ⟨c, 2, none⟩ = some (.int .i64 (t.c : Nat)) := cellG hw1 HC.out (by simp) 2
   go_simp
 try go_frame
 refine gm_call [.agg (kc k), .int .u64 (x : Nat), .int .i64 (t.c : Nat)] (by kernel_rfl) rfl rfl Stb.tt (fun w1 hw1 hF1 => (C2.out w1).mono ?_)
 rintro e w2 ⟨rfl, hw2⟩
 refine ⟨_, rfl, hw2, ?_⟩
 clear hw1 hF1 w1 hw2 w2
 try go_frame
 refine gm_flo (.int .u64 (V : Nat)) (fun w1 hw1 => ?_) ?_
 case refine_1 =>
   go_simp
 try go_frame
 refine gm_nil ?_
 intro w9 hw9 hF9
 simp only [List.drop]
 try go_frame
 go_wp2
 go_ret
 exact ⟨rfl, B0.out.trans (hw9.below.mono B0.out.size)⟩
set_option maxRecDepth 100000 in
set_option maxHeartbeats 2000000 in
theorem two_any (k : KV) (hW : k.W = 32 ∨ k.W = 64) (x : Nat) (t : T3) (hx : x < 2 ^ k.W) (ha : t.a ≤ k.W) (hb : t.b ≤ k.W) (hc : t.c ≤ k.W) (w : World) :
   Calls Tryz.prog 135 #[.agg (kc k), .int .u64 (x : Nat), .agg (tc t)] w fun e w' => e = .returned (.int .u64 (sml k.W x t : Nat)) ∧ Below w.heap.size w w' := by
 obtain ⟨V, hV⟩ : ∃ V, V = sml k.W x t := ⟨_, rfl⟩
 rw [← hV]
 have hl := pw_le hW
 have C0 := Box.mk (rot_any k hW x t.a hx ha); have C1 := Box.mk (rot_any k hW x t.b hx hb); have hd : (x : Int) / 2 ^ min t.c 64 = ((x / 2 ^ t.c : Nat) : Int) := by rw [Nat.min_eq_left (by omega)]; simp
 have l0 := rotr_lt (n := t.a) hx; have l1 := rotr_lt (n := t.b) hx; have l2 : x / 2 ^ t.c < 2 ^ k.W := Nat.lt_of_le_of_lt (Nat.div_le_self _ _) hx
 unfold sml at hV
 generalize rotr k.W x t.a = r0 at C0 l0 hV
 generalize rotr k.W x t.b = r1 at C1 l1 hV
 generalize x / 2 ^ t.c = r2 at hd l2 hV
 have hx1 := u64_xor_nat r0 r1 (by omega) (by omega)
 have lx : r0 ^^^ r1 < 18446744073709551616 := Nat.xor_lt_two_pow (n := 64) (by omega) (by omega)
 obtain ⟨y, hy⟩ : ∃ y, y = r0 ^^^ r1 := ⟨_, rfl⟩
 rw [← hy] at hx1 hV lx
 have hx2 := u64_xor_nat y r2 lx (by omega)
 rw [← hV] at hx2
 clear hy hV l0 l1 l2 lx hl hx ha hb hc
 go_enter Tryz.func135, Tryz.ntmps135
 go_upto_region 1 with (fail)
 have HB : Box (((w.alloc (.cells (kc k) 141)).alloc (.cells (tc t) 139)).drew.heap[w.heap.size]? = some (.cells (kc k) 141 (0, 0))) := ⟨(heap_alloc_old _ _ (by simp)).trans (heap_alloc_new w _)⟩
 have HC : Box (((w.alloc (.cells (kc k) 141)).alloc (.cells (tc t) 139)).drew.heap[w.heap.size + 1]? = some (.cells (tc t) 139 (0, 0))) := ⟨by
   have := heap_alloc_new (w.alloc (.cells (kc k) 141)) (.cells (tc t) 139)
   rw [show (w.alloc (.cells (kc k) 141)).heap.size = w.heap.size + 1 by simp] at this; exact this⟩
 have B0 : Box (Below w.heap.size w ((w.alloc (.cells (kc k) 141)).alloc (.cells (tc t) 139)).drew) := ⟨(((Below.refl _ _).alloc (Nat.le_refl _) _).alloc (by simp) _).drew⟩
 obtain ⟨c, hc⟩ : ∃ b, b = w.heap.size + 1 := ⟨_, rfl⟩
 rw [← hc] at HC ⊢
 obtain ⟨b, hb⟩ : ∃ b, b = w.heap.size := ⟨_, rfl⟩
 rw [← hb] at HB ⊢
 clear hb hc
 generalize (w.alloc (.cells (kc k) 141)).alloc (.cells (tc t) 139) = w0 at HB HC B0 ⊢
 refine wp_region_mix 16 [.flo, .flo, .flo, .flo, .cha, .flo, .flo, .flo, .flo, .cha, .flo, .flo, .flo, .flo, .flo, .flo] (by kernel_rfl) (by kernel_rfl) rfl ?_
 simp only [List.take, List.zip, List.zipWith]
 try go_frame
 refine gm_loadK (.tmp 3) rfl b k HB.out (by simp) rfl ?_
 try go_frame
 refine gm_flo (.int .u64 (x : Nat)) (fun w1 hw1 => ?_) ?_
 case refine_1 =>
   go_simp
 try go_frame
 refine gm_flo (.pointer (some ⟨c, 0, none⟩)) (fun w1 hw1 => ?_) ?_
 case refine_1 =>
   go_simp
 try go_frame
 refine gm_flo (.int .i64 (t.a : Nat)) (fun w1 hw1 => ?_) ?_
 case refine_1 =>
   have hc : w1.cell? ⟨c, 0, none⟩ = some (.int .i64 (t.a : Nat)) := cellG hw1 HC.out (by simp) 0
   go_simp
 try go_frame
 refine gm_call [.agg (kc k), .int .u64 (x : Nat), .int .i64 (t.a : Nat)] (by kernel_rfl) rfl rfl Stb.tt (fun w1 hw1 hF1 => (C0.out w1).mono ?_)
 rintro e w2 ⟨rfl, hw2⟩
 refine ⟨_, rfl, hw2, ?_⟩
 clear hw1 hF1 w1 hw2 w2
 try go_frame
 refine gm_loadK (.tmp 3) rfl b k HB.out (by simp) rfl ?_
 try go_frame
 refine gm_flo (.int .u64 (x : Nat)) (fun w1 hw1 => ?_) ?_
 case refine_1 =>
   go_simp
 try go_frame
 refine gm_flo (.pointer (some ⟨c, 1, none⟩)) (fun w1 hw1 => ?_) ?_
 case refine_1 =>
   go_simp
 try go_frame
 refine gm_flo (.int .i64 (t.b : Nat)) (fun w1 hw1 => ?_) ?_
 case refine_1 =>
   have hc : w1.cell? ⟨c, 1, none⟩ = some (.int .i64 (t.b : Nat)) := cellG hw1 HC.out (by simp) 1
   go_simp
 try go_frame
 refine gm_call [.agg (kc k), .int .u64 (x : Nat), .int .i64 (t.b : Nat)] (by kernel_rfl) rfl rfl Stb.tt (fun w1 hw1 hF1 => (C1.out w1).mono ?_)
 rintro e w2 ⟨rfl, hw2⟩
 refine ⟨_, rfl, hw2, ?_⟩
 clear hw1 hF1 w1 hw2 w2
 try go_frame
 refine gm_flo (.int .u64 (y : Nat)) (fun w1 hw1 => ?_) ?_
 case refine_1 =>
   go_simp
 try go_frame
 refine gm_flo (.int .u64 (x : Nat)) (fun w1 hw1 => ?_) ?_
 case refine_1 =>
   go_simp
 try go_frame
 refine gm_flo (.pointer (some ⟨c, 2, none⟩)) (fun w1 hw1 => ?_) ?_
 case refine_1 =>
   go_simp
 try go_frame
 refine gm_flo (.int .i64 (t.c : Nat)) (fun w1 hw1 => ?_) ?_
 case refine_1 =>
   have hc : w1.cell? ⟨c, 2, none⟩ = some (.int .i64 (t.c : Nat)) := cellG hw1 HC.out (by simp) 2
   go_simp
 try go_frame
 refine gm_flo (.int .u64 (r2 : Nat)) (fun w1 hw1 => ?_) ?_
 case refine_1 =>
   go_simp
 try go_frame
 refine gm_flo (.int .u64 (V : Nat)) (fun w1 hw1 => ?_) ?_
 case refine_1 =>
   go_simp
 try go_frame
 refine gm_nil ?_
 intro w9 hw9 hF9
 simp only [List.drop]
 try go_frame
 go_wp2
 go_ret
 exact ⟨rfl, B0.out.trans (hw9.below.mono B0.out.size)⟩
open Go Go.RowKit
open Sha (ps)
@[irreducible] def pb (n : Nat) : List Nat := ps.filter (· < n)
theorem pb_zero : pb 2 = [] := by unfold pb; decide +kernel
theorem pb_step : ∀ n, n < 410 → 2 ≤ n → pb (n + 1) = if (pb n).all (fun p => n % p != 0) then pb n ++ [n] else pb n := by unfold pb; decide +kernel
theorem pb_many : ∀ n, n < 411 → (pb n).length < 80 → n < 410 := by unfold pb; decide +kernel
theorem pb_take : ∀ n, n < 411 → pb n = ps.take (pb n).length := by unfold pb; decide +kernel
theorem pb_pos : ∀ n, n < 411 → ∀ p ∈ pb n, 0 < p := by
 intro n _ p hp
 unfold pb at hp
 have := (List.mem_filter.1 hp).1
 exact (by decide +kernel : ∀ p ∈ ps, 0 < p) p this
theorem iv_at (L : List Nat) (j : Nat) (h : j < L.length) : (L.map iv)[j]? = some (.int .i64 (L.getD j 0 : Nat)) := by
 rw [List.getElem?_map, List.getElem?_eq_getElem h, List.getD_eq_getElem?_getD, List.getElem?_eq_getElem h]; rfl
theorem all_step (L : List Nat) (f : Nat → Bool) (j : Nat) (h : j < L.length) : (L.take (j + 1)).all f = ((L.take j).all f && f (L.getD j 0)) := by
 rw [List.take_succ_eq_append_getElem h, List.all_append, List.getD_eq_getElem?_getD, List.getElem?_eq_getElem h]; simp
theorem bne_cast (r : Nat) : (r != 0) = ((r : Int) != 0) := by
 rcases Nat.eq_zero_or_pos r with h | h
 · subst h; rfl
 · rw [bne_iff_ne.2 (show r ≠ 0 by omega), bne_iff_ne.2 (show (r : Int) ≠ 0 by omega)]
set_option maxRecDepth 100000 in
set_option maxHeartbeats 2000000 in
theorem primes_any (many : Nat) (hm : many ≤ 80) (w : World) :
   Calls Tryz.prog 132 #[.int .i64 (many : Nat)] w fun e w' => ∃ v, e = .returned v ∧ Own w' w.heap.size 3 v many ((ps.take many).map iv) ∧ v ≠ .slice none 0 0 ∧ Below w.heap.size w w' := by
 go_enter Tryz.func132, Tryz.ntmps132
 go_wp2_with fail
 have o0 : Box (Own (w.alloc (.cells #[] 3)) w.heap.size 3 (.slice (some ⟨w.heap.size, 0, none⟩) 0 0) 0 []) := ⟨Own.made w 3 #[] 0 w.heap.size (Nat.le_refl _) (by unfold maxLen; omega) rfl⟩
 have b0 : Box (Below w.heap.size w (w.alloc (.cells #[] 3))) := ⟨(Below.refl _ _).alloc (Nat.le_refl _) _⟩
 have s0 : Box (w.heap.size ≤ (w.alloc (.cells #[] 3)).heap.size) := ⟨by simp⟩
 go_loopw [3, 4] (fun v i wr => ∃ n : Nat, 2 ≤ n ∧ n ≤ 410 ∧ i = .int .i64 n ∧ Own wr w.heap.size 3 v (pb n).length ((pb n).map iv) ∧ v ≠ .slice none 0 0 ∧ (pb n).length ≤ many ∧ Below w.heap.size w wr ∧ w.heap.size ≤ wr.heap.size) (fun _ i _ => 410 - (intOf i).toNat)
 case atStart => exact ⟨2, by omega, by omega, rfl, by rw [pb_zero]; exact o0.out, by simp, by rw [pb_zero]; simp, b0.out, s0.out⟩
 case round =>
   clear o0 b0 s0
   obtain ⟨n, hn2, hn, rfl, hown, hne, hlm, hbel, hsz⟩ := hrel
   have hpm := pb_many n (by omega)
   obtain ⟨g, cap, rfl, hBg, hcell, hglt, htc⟩ := hown.cells hne
   by_cases hlt : (pb n).length < many
   · have hn3 : n < 410 := hpm (by omega)
     have hst := pb_step n hn3 hn2
     have hpos := pb_pos n (by omega)
     generalize pb n = L at hown hlm hcell hlt hst hpos
     obtain ⟨c, hc⟩ : ∃ c, c = L.length := ⟨_, rfl⟩
     rw [← hc] at hown hlm hlt ⊢
     have OW := Box.mk hown; have HB := Box.mk hbel; have HSZ := Box.mk hsz; have HST := Box.mk hst; have HPOS := Box.mk hpos; have HC := Box.mk hc; have HCELL := Box.mk hcell
     have hcI : (c : Int) < (many : Int) := by omega
     clear hown hbel hst hpos hc hcell hpm hlt hne hBg hglt htc
     go_wp2_with fail
     obtain ⟨wo, rfl⟩ : ∃ wo : World, wo = wr := ⟨_, rfl⟩
     go_loop [5, 6] (fun x i => ∃ j : Nat, j ≤ c ∧ i = .int .i64 j ∧ x = .bool ((L.take j).all (fun p => n % p != 0))) (fun _ i => c - (intOf i).toNat)
     case atStart => exact ⟨0, by omega, rfl, by simp⟩
     case round =>
       obtain ⟨j, hj, rfl, rfl⟩ := hrel
       by_cases hjl : j < c
       · have hjI : (j : Int) < (c : Int) := by omega
         have hL : j < L.length := by have := HC.out; omega
         have has := all_step L (fun p => n % p != 0) j hL
         have hcj := HCELL.out j _ (iv_at L j hL)
         have hpp : 0 < L.getD j 0 := HPOS.out _ (by rw [List.getD_eq_getElem?_getD, List.getElem?_eq_getElem hL]; simp)
         generalize L.getD j 0 = p at has hcj hpp
         have hp0 : ¬ p = 0 := by omega
         obtain ⟨r, hr⟩ : ∃ r, r = n % p := ⟨_, rfl⟩
         have hrI : (n : Int).tmod (p : Int) = (r : Int) := by rw [hr]; exact rfl
         have hrI2 : (n : Int) % (p : Int) = (r : Int) := by rw [hr]; simp
         rw [← hr] at has
         have HAS := Box.mk has
         clear has hr hL hpp
         generalize (L.take j).all (fun p => n % p != 0) = bb at HAS ⊢
         cases bb
         · clear hcj hp0 hrI hrI2
           have HAS : Box ((L.take (j + 1)).all (fun p => n % p != 0) = false) := ⟨by rw [HAS.out]; simp⟩
           go_wp2_with fail
           exact ⟨⟨j + 1, by omega, by go_num, by rw [HAS.out]⟩, by simp [intOf]; omega⟩
         · have HAS : Box ((L.take (j + 1)).all (fun p => n % p != 0) = ((r : Int) != 0)) := ⟨by rw [HAS.out, Bool.true_and]; exact bne_cast r⟩
           go_wp2_with fail
           exact ⟨⟨j + 1, by omega, by go_num, by rw [HAS.out]⟩, by simp [intOf]; omega⟩
       · obtain rfl : j = c := by omega
         have HST : Box (pb (n + 1) = if L.all (fun p => n % p != 0) then L ++ [n] else L) := HST
         rw [List.take_of_length_le (by have := HC.out; omega)]
         generalize L.all (fun p => n % p != 0) = bb at HST ⊢
         clear hjl
         cases bb
         · have HSTa : Box (pb (n + 1) = L) := ⟨by rw [HST.out]; rfl⟩
           clear HST
           go_wp2_with fail
           exact ⟨⟨n + 1, by omega, by omega, by go_num, by rw [HSTa.out, ← HC.out]; exact OW.out, by simp, by rw [HSTa.out, ← HC.out]; exact hlm, HB.out, HSZ.out⟩, by simp [intOf]; omega⟩
         · have HSTa : Box (pb (n + 1) = L ++ [n]) := ⟨by rw [HST.out]; rfl⟩
           clear HST
           have HLEN : Box ((L ++ [n]).length = j + 1) := ⟨by rw [List.length_append, ← HC.out]; rfl⟩
           go_wp2_with (at_builtin; refine wpList_app1 (w0 := w) rfl (.tmp 31) (.tmp 33) 100 rfl w.heap.size 3 (.int .i64 0) 8 Tryz.underlying100 (by kernel_rfl) rfl (.slice (some ⟨g, 0, none⟩) j cap) j (L.map iv) rfl (OW.out.alloc _) (HB.out.alloc HSZ.out _) (by have := HSZ.out; simp; omega) wo.heap.size (.int .i64 (n : Nat)) rfl (cell_new _ _ _) rfl (by omega) (by omega) ?_)
           intro v' w' o' b' s' gr' ne'
           have ON : Box (Own w' w.heap.size 3 v' (j + 1) ((L ++ [n]).map iv)) := ⟨by rw [List.map_append]; exact o'⟩
           have BN := Box.mk b'; have SN := Box.mk s'; have NN := Box.mk ne'
           clear o' b' s' gr' ne'
           go_wp2_with fail
           exact ⟨⟨n + 1, by omega, by omega, by go_num, by rw [HSTa.out, HLEN.out]; exact ON.out, NN.out, by rw [HSTa.out, HLEN.out]; omega, BN.out, SN.out⟩, by simp [intOf]; omega⟩
   · have he : (pb n).length = many := by omega
     have hpt := pb_take n (by omega)
     rw [he] at hown hpt ⊢
     rw [hpt] at hown
     have OW := Box.mk hown; have HB := Box.mk hbel
     clear hown hbel hcell hpm hlt hne hBg hglt htc hpt he hlm
     go_wp2_with fail
     go_ret
     exact ⟨_, rfl, OW.out, by simp, HB.out⟩
end Go.Proofs.YtafhncpaoolljaaGreat.Big
