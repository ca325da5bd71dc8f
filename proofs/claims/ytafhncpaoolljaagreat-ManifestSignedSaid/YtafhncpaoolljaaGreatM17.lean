/- Numbers in five limbs of 51 bits, modulo 2^255 - 19: plain laws. Nothing of the program. The package limbs: carried. The package limbs: least. The package limbs: Add, Sub, Small, Neg. The package limbs: Add, Sub, Small, Neg. The package limbs: the product's plain laws. Nothing of the program. -/
import Derived.Test.YtafhncpaoolljaaGreatM13
import Derived.Test.YtafhncpaoolljaaGreatRows
import Derived.Test.YtafhncpaoolljaaGreatM02
import Derived.Laws.CopyOwn
import Derived.Deep.WholeRow
import Derived.Maps.RangeWalk
import Derived.Deep.Cut
namespace Go.Proofs.YtafhncpaoolljaaGreat.Fe
set_option maxRecDepth 100000
set_option linter.unusedVariables false
open Go Go.RowKit
@[irreducible] def fp : Nat := 57896044618658097711785492504343953926634992332820282019728792003956564819949
theorem fp_eq : fp = 57896044618658097711785492504343953926634992332820282019728792003956564819949 := by unfold fp; first | done | rfl
theorem fp_pos : 0 < fp := by simp [fp_eq]
theorem fp_big : 2 ^ 255 = fp + 19 := by simp [fp_eq]
@[irreducible] def lv (f : Nat → Nat) : Nat := f 0 + 2251799813685248 * f 1 + 5070602400912917605986812821504 * f 2 + 11417981541647679048466287755595961091061972992 * f 3 + 25711008708143844408671393477458601640355247900524685364822016 * f 4
theorem lv_eq (f : Nat → Nat) : lv f = f 0 + 2251799813685248 * f 1 + 5070602400912917605986812821504 * f 2 + 11417981541647679048466287755595961091061972992 * f 3 + 25711008708143844408671393477458601640355247900524685364822016 * f 4 := by unfold lv; rfl
def upd (f : Nat → Nat) (i x : Nat) : Nat → Nat := fun j => if j = i then x else f j
theorem upd_same (f : Nat → Nat) (i x : Nat) : upd f i x i = x := by simp [upd]
theorem upd_other (f : Nat → Nat) (i x j : Nat) (h : j ≠ i) : upd f i x j = f j := by simp [upd, h]
theorem upd_upd (f : Nat → Nat) (i x y : Nat) : upd (upd f i x) i y = upd f i y := by
 funext j; unfold upd; split <;> rfl
def lw (i : Nat) : Nat := 2 ^ (51 * i)
theorem lv_upd (f : Nat → Nat) (i x : Nat) (hi : i < 5) : lv (upd f i x) + lw i * f i = lv f + lw i * x := by
 rw [lv_eq, lv_eq]
 match i, hi with
 | 0, _ => simp [upd, lw]; omega
 | 1, _ => simp [upd, lw]; omega
 | 2, _ => simp [upd, lw]; omega
 | 3, _ => simp [upd, lw]; omega
 | 4, _ => simp [upd, lw]; omega
def ecell (f : Nat → Nat) : Array Value := #[.int .u64 (f 0), .int .u64 (f 1), .int .u64 (f 2), .int .u64 (f 3), .int .u64 (f 4)]
theorem ecell_get (f : Nat → Nat) (i : Nat) (hi : i < 5) : (ecell f)[i]? = some (.int .u64 (f i)) := by
 match i, hi with
 | 0, _ => rfl
 | 1, _ => rfl
 | 2, _ => rfl
 | 3, _ => rfl
 | 4, _ => rfl
theorem ecell_set (f : Nat → Nat) (i : Nat) (hi : i < 5) (x : Nat) (y : Int) (hy : y = x) : (ecell f).setIfInBounds i (.int .u64 y) = ecell (upd f i x) := by
 subst hy
 match i, hi with
 | 0, _ => rfl
 | 1, _ => rfl
 | 2, _ => rfl
 | 3, _ => rfl
 | 4, _ => rfl
structure Lim (m : Nat) (f : Nat → Nat) : Prop where
 m0 : m = 0 → ∀ j, j < 5 → f j < 9223372036854775808
 m1 : m = 1 → f 0 < 4503599627370496 ∧ ∀ j, 1 ≤ j → j < 5 → f j < 2251799813685248
 m2 : m = 2 → f 0 < 2251799813685267 ∧ ∀ j, 1 ≤ j → j < 5 → f j < 2251799813685248
 m3 : 3 ≤ m → ∀ j, j < 5 → f j < 2251799813685248
structure Car (m : Nat) (g : Nat → Nat) (i : Nat) (f : Nat → Nat) (o : Nat) : Prop where
 lim : Lim m g
 low : ∀ j, j < i → f j < 2251799813685248
 up : ∀ j, i ≤ j → f j = g j
 val : lv f + lw i * o = lv g
 o0 : m = 0 → o ≤ 8192
 o1 : m = 1 → o ≤ 1 ∧ (i = 0 → o = 0)
 o2 : m = 2 → o ≤ 1 ∧ (o = 1 → f 0 < 19) ∧ (i = 0 → o = 0)
 o3 : 3 ≤ m → o = 0
theorem Car.start {m : Nat} {g : Nat → Nat} (h : Lim m g) : Car m g 0 g 0 :=
 ⟨h, fun j hj => by omega, fun _ _ => rfl, by omega, fun _ => by omega, fun _ => ⟨by omega, fun _ => rfl⟩, fun _ => ⟨by omega, fun h => by omega, fun _ => rfl⟩, fun _ => rfl⟩
theorem Car.bound {m i o : Nat} {g f : Nat → Nat} (h : Car m g i f o) (hi : i < 5) : f i + o < 18446744073709551616 := by
 have hu := h.up i (Nat.le_refl _)
 rw [hu]
 rcases Nat.lt_or_ge m 3 with hm | hm
 · rcases m with _ | _ | _ | m
   · have := h.lim.m0 rfl i hi; have := h.o0 rfl; omega
   · have := h.lim.m1 rfl; have := (h.o1 rfl).1
     rcases Nat.eq_zero_or_pos i with hi0 | hi0
     · subst hi0; omega
     · have := this; have := (h.lim.m1 rfl).2 i hi0 hi; omega
   · have := h.lim.m2 rfl; have := (h.o2 rfl).1
     rcases Nat.eq_zero_or_pos i with hi0 | hi0
     · subst hi0; omega
     · have := (h.lim.m2 rfl).2 i hi0 hi; omega
   · omega
 · have := h.lim.m3 hm i hi; have := h.o3 hm; omega
theorem lw_succ (i : Nat) : lw (i + 1) = lw i * 2251799813685248 := by unfold lw; rw [Nat.mul_add, Nat.pow_add]
theorem Car.step {m i o : Nat} {g f : Nat → Nat} (h : Car m g i f o) (hi : i < 5) : Car m g (i + 1) (upd f i ((f i + o) % 2251799813685248)) ((f i + o) / 2251799813685248) := by
 have hu := h.up i (Nat.le_refl _)
 refine ⟨h.lim, ?_, ?_, ?_, ?_, ?_, ?_, ?_⟩
 · intro j hj
   by_cases e : j = i
   · subst e; rw [upd_same]; omega
   · rw [upd_other _ _ _ _ e]; exact h.low j (by omega)
 · intro j hj
   rw [upd_other _ _ _ _ (by omega)]; exact h.up j (by omega)
 · have h1 := lv_upd f i ((f i + o) % 2251799813685248) hi
   have h2 := h.val
   rw [lw_succ, Nat.mul_assoc]
   have h3 := Nat.div_add_mod (f i + o) 2251799813685248
   generalize (f i + o) / 2251799813685248 = d at h3 ⊢
   generalize (f i + o) % 2251799813685248 = r at h1 h3 ⊢
   have h4 : lw i * (2251799813685248 * d) + lw i * r = lw i * f i + lw i * o := by rw [← Nat.mul_add, ← Nat.mul_add, h3]
   omega
 · intro hm; subst hm; have := h.lim.m0 rfl i hi; have := h.o0 rfl; omega
 · intro hm; subst hm
   have ho := h.o1 rfl
   refine ⟨?_, fun e => by omega⟩
   rcases Nat.eq_zero_or_pos i with hi0 | hi0
   · subst hi0; have := (h.lim.m1 rfl).1; have := ho.2 rfl; omega
   · have := (h.lim.m1 rfl).2 i hi0 hi; have := ho.1; omega
 · intro hm; subst hm
   have ho := h.o2 rfl
   rcases Nat.eq_zero_or_pos i with hi0 | hi0
   · subst hi0
     have := (h.lim.m2 rfl).1
     have h0 := ho.2.2 rfl
     refine ⟨by omega, fun e => ?_, fun e => by omega⟩
     rw [upd_same]; omega
   · have := (h.lim.m2 rfl).2 i hi0 hi
     refine ⟨by omega, fun e => ?_, fun e => by omega⟩
     rw [upd_other _ _ _ _ (by omega)]
     exact ho.2.1 (by omega)
 · intro hm; have := h.lim.m3 hm i hi; have := h.o3 hm; omega
theorem Car.done {m o : Nat} {g f : Nat → Nat} (h : Car m g 5 f o) : Lim (m + 1) (upd f 0 (f 0 + 19 * o)) ∧ lv (upd f 0 (f 0 + 19 * o)) % fp = lv g % fp ∧ f 0 + 19 * o < 18446744073709551616 := by
 have l0 := h.low 0 (by omega)
 have hl : ∀ j, 1 ≤ j → j < 5 → upd f 0 (f 0 + 19 * o) j < 2251799813685248 := fun j h1 h2 => by rw [upd_other _ _ _ _ (by omega)]; exact h.low j h2
 have e0 : upd f 0 (f 0 + 19 * o) 0 = f 0 + 19 * o := upd_same _ _ _
 refine ⟨⟨fun hm => by omega, fun hm => ?_, fun hm => ?_, fun hm => ?_⟩, ?_, ?_⟩
 · have := h.o0 (by omega); exact ⟨by rw [e0]; omega, hl⟩
 · have := (h.o1 (by omega)).1; exact ⟨by rw [e0]; omega, hl⟩
 · intro j hj
   rcases Nat.eq_zero_or_pos j with hj0 | hj0
   · subst hj0; rw [e0]
     by_cases hm2 : m = 2
     · have := h.o2 hm2
       rcases Nat.eq_zero_or_pos o with ho | ho
       · omega
       · have := this.2.1 (by omega); omega
     · have := h.o3 (by omega); omega
   · exact hl j hj0 hj
 · have h1 := lv_upd f 0 (f 0 + 19 * o) (by omega)
   have h2 := h.val
   have w0 : lw 0 = 1 := rfl
   have w5 : lw 5 = fp + 19 := by rw [← fp_big]; rfl
   rw [w0] at h1; rw [w5] at h2
   have e : lv g = lv (upd f 0 (f 0 + 19 * o)) + fp * o := by rw [Nat.add_mul] at h2; omega
   rw [e, Nat.add_mul_mod_self_left]
 · rcases Nat.lt_or_ge m 3 with hm | hm
   · rcases m with _ | _ | _ | m
     · have := h.o0 rfl; omega
     · have := (h.o1 rfl).1; omega
     · have := (h.o2 rfl).1; omega
     · omega
   · have := h.o3 hm; omega
theorem Lim.zero {m : Nat} {f : Nat → Nat} (h : Lim m f) : Lim 0 f := by
 refine ⟨fun _ j hj => ?_, fun h => by omega, fun h => by omega, fun h => by omega⟩
 rcases m with _ | _ | _ | m
 · exact h.m0 rfl j hj
 · rcases Nat.eq_zero_or_pos j with h0 | h0
   · subst h0; have := (h.m1 rfl).1; omega
   · have := (h.m1 rfl).2 j h0 hj; omega
 · rcases Nat.eq_zero_or_pos j with h0 | h0
   · subst h0; have := (h.m2 rfl).1; omega
   · have := (h.m2 rfl).2 j h0 hj; omega
 · have := h.m3 (by omega) j hj; omega
theorem Lim.full {m : Nat} {f : Nat → Nat} (h : Lim m f) (hm : 3 ≤ m) : Lim 3 f := ⟨fun h => by omega, fun h => by omega, fun h => by omega, fun _ => h.m3 hm⟩
theorem Lim.two {f : Nat → Nat} (h : Lim 3 f) : Lim 2 f :=
 ⟨fun h => by omega, fun h => by omega, fun _ => ⟨by have := h.m3 (by omega) 0 (by omega); omega, fun j _ hj => h.m3 (by omega) j hj⟩, fun h => by omega⟩
theorem Lim.lt {f : Nat → Nat} (h : Lim 3 f) : lv f < fp + 19 := by
 have := h.m3 (by omega) 0 (by omega); have := h.m3 (by omega) 1 (by omega); have := h.m3 (by omega) 2 (by omega); have := h.m3 (by omega) 3 (by omega); have := h.m3 (by omega) 4 (by omega)
 rw [lv_eq, fp_eq]; omega
structure Up (g : Nat → Nat) (i : Nat) (f : Nat → Nat) : Prop where
 lim : Lim 3 g
 low : ∀ j, j < i → f j < 2251799813685248
 at_ : f i ≤ g i + 19
 up : ∀ j, i < j → f j = g j
 val : lv f = lv g + 19
theorem Up.start {g : Nat → Nat} (h : Lim 3 g) : Up g 0 (upd g 0 (g 0 + 19)) := by
 refine ⟨h, fun j hj => by omega, by rw [upd_same]; omega, fun j hj => upd_other _ _ _ _ (by omega), ?_⟩
 have h1 := lv_upd g 0 (g 0 + 19) (by omega)
 rw [show lw 0 = 1 from rfl] at h1; omega
theorem Up.bound {g f : Nat → Nat} {i : Nat} (h : Up g i f) (hi : i < 5) : f i < 2251799813685248 + 19 := by have := h.lim.m3 (by omega) i hi; have := h.at_; omega
theorem Up.step {g f : Nat → Nat} {i : Nat} (h : Up g i f) (hi : i < 4) : Up g (i + 1) (upd (upd f (i + 1) (f (i + 1) + f i / 2251799813685248)) i (f i % 2251799813685248)) := by
 have hb := h.bound (by omega)
 refine ⟨h.lim, fun j hj => ?_, ?_, fun j hj => ?_, ?_⟩
 · by_cases e : j = i
   · subst e; rw [upd_same]; omega
   · rw [upd_other _ _ _ _ e, upd_other _ _ _ _ (by omega)]; exact h.low j (by omega)
 · rw [upd_other _ _ _ _ (by omega), upd_same, h.up (i + 1) (by omega)]; omega
 · rw [upd_other _ _ _ _ (by omega), upd_other _ _ _ _ (by omega)]; exact h.up j (by omega)
 · have h1 := lv_upd f (i + 1) (f (i + 1) + f i / 2251799813685248) (by omega)
   have h2 := lv_upd (upd f (i + 1) (f (i + 1) + f i / 2251799813685248)) i (f i % 2251799813685248) (by omega)
   rw [upd_other f _ _ i (by omega)] at h2
   have h3 := Nat.div_add_mod (f i) 2251799813685248
   have h4 := h.val
   rw [lw_succ, Nat.mul_add] at h1
   generalize f i / 2251799813685248 = d at h1 h2 h3 ⊢
   generalize f i % 2251799813685248 = r at h2 h3 ⊢
   have h5 : lw i * 2251799813685248 * d + lw i * r = lw i * f i := by rw [Nat.mul_assoc, ← Nat.mul_add, h3]
   omega
theorem Up.least {g f : Nat → Nat} (h : Up g 4 f) : (f 4 / 2251799813685248 = 0 → lv g % fp = lv g) ∧ (f 4 / 2251799813685248 ≠ 0 → Lim 3 (upd f 4 (f 4 % 2251799813685248)) ∧ lv (upd f 4 (f 4 % 2251799813685248)) = lv g % fp) := by
 have hb := h.bound (by omega)
 have hv := h.val
 have l0 := h.low 0 (by omega); have l1 := h.low 1 (by omega); have l2 := h.low 2 (by omega); have l3 := h.low 3 (by omega)
 refine ⟨fun h0 => ?_, fun h0 => ⟨⟨fun h => by omega, fun h => by omega, fun h => by omega, fun _ j hj => ?_⟩, ?_⟩⟩
 · apply Nat.mod_eq_of_lt
   rw [lv_eq f] at hv
   rw [fp_eq]; omega
 · by_cases e : j = 4
   · subst e; rw [upd_same]; omega
   · rw [upd_other _ _ _ _ e]; exact h.low j (by omega)
 · have h1 := lv_upd f 4 (f 4 % 2251799813685248) (by omega)
   have w4 : lw 4 * 2251799813685248 = fp + 19 := by rw [← lw_succ, ← fp_big]; rfl
   have h3 := Nat.div_add_mod (f 4) 2251799813685248
   have hlt := h.lim.lt
   have hd : f 4 / 2251799813685248 = 1 := by omega
   rw [hd] at h3
   have h5 : lw 4 * f 4 = fp + 19 + lw 4 * (f 4 % 2251799813685248) := by rw [← w4, ← Nat.mul_add]; congr 1; omega
   have e : lv g = lv (upd f 4 (f 4 % 2251799813685248)) + fp * 1 := by omega
   have h19 : 19 < fp := by rw [fp_eq]; omega
   have hl : lv (upd f 4 (f 4 % 2251799813685248)) < fp := by omega
   rw [e, Nat.add_mul_mod_self_left, Nat.mod_eq_of_lt hl]
open Go Go.RowKit
theorem and51 (x : Nat) (hx : x < 18446744073709551616) : bits .and .u64 (x : Int) 2251799813685247 = ((x % 2251799813685248 : Nat) : Int) := by
 rw [show (2251799813685247 : Int) = ((2251799813685247 : Nat) : Int) from rfl, u64_and_nat _ _ hx (by decide), show (2251799813685247 : Nat) = 2 ^ 51 - 1 from rfl, Nat.and_two_pow_sub_one_eq_mod]
def z5 : Array Value := #[.int .u64 0, .int .u64 0, .int .u64 0, .int .u64 0, .int .u64 0]
set_option maxRecDepth 100000 in
set_option maxHeartbeats 2000000 in
theorem carried_any (m : Nat) (f : Nat → Nat) (hf : Lim m f) (w : World) :
   Calls Tryz.prog 95 #[.agg (ecell f)] w fun e w' => ∃ g, e = .returned (.agg (ecell g)) ∧ Lim (m + 2) g ∧ lv g % fp = lv f % fp ∧ Below w.heap.size w w' := by
 have hz : ∀ w, (zeroValue 56).run Tryz.prog w = .ok (.agg z5) w := fun _ => by kernel_rfl
 obtain ⟨W0, hW0⟩ : ∃ W, W = (w.alloc (.cells (ecell f) 56)).alloc (.cells z5 56) := ⟨_, rfl⟩
 have g0 : W0.heap[w.heap.size]? = some (.cells (ecell f) 56 (0, 0)) := by rw [hW0, heap_alloc_old _ _ (by simp)]; exact heap_alloc_new _ _
 have g1 : W0.heap[w.heap.size + 1]? = some (.cells z5 56 (0, 0)) := by
   have := heap_alloc_new (w.alloc (.cells (ecell f) 56)) (.cells z5 56)
   rw [World.size_alloc] at this
   rw [hW0]; exact this
 have b0 : Below w.heap.size w W0 := by rw [hW0]; go_grown
 have G0 := Box.mk g0; have G1 := Box.mk g1; have B0 := Box.mk b0; have HF := Box.mk hf
 clear g0 g1 b0 hf
 go_enter Tryz.func95, Tryz.ntmps95
 go_wp2_with fail
 rw [← hW0]
 clear hW0 hz
 go_loopw [3, 5] (fun o i wr => ∃ (k : Nat) (g : Nat → Nat), k ≤ 2 ∧ i = .int .i64 k ∧ wr.heap[w.heap.size]? = some (.cells (ecell g) 56 (0, 0)) ∧ wr.heap[w.heap.size + 1]? = some (.cells z5 56 (0, 0)) ∧ Lim (m + k) g ∧ lv g % fp = lv f % fp ∧ Below w.heap.size w wr) (fun _ i _ => (2 - intOf i).toNat)
 case atStart => exact ⟨0, f, by omega, rfl, G0.out, G1.out, HF.out, rfl, B0.out⟩
 case round =>
   clear G0 G1 HF B0
   obtain ⟨k, g, hk, rfl, hg, hz1, hlim, hval, hb⟩ := hrel
   have HZ1 := Box.mk hz1; have HVAL := Box.mk hval; have HB := Box.mk hb
   clear hz1 hval hb
   by_cases hkl : k < 2
   · have hkI : (k : Int) < 2 := by omega
     have HG := Box.mk hg; have HST := Box.mk (Car.start hlim)
     clear hg hlim
     go_wp2_with fail
     obtain ⟨wo, rfl⟩ : ∃ wo : World, wo = wr := ⟨_, rfl⟩
     go_loopw [3, 7] (fun ov i wr => ∃ (j o : Nat) (h : Nat → Nat), j ≤ 5 ∧ i = .int .i64 j ∧ ov = .int .u64 o ∧ wr.heap[w.heap.size]? = some (.cells (ecell h) 56 (0, 0)) ∧ wr.heap[w.heap.size + 1]? = some (.cells z5 56 (0, 0)) ∧ Car (m + k) g j h o ∧ Below w.heap.size w wr) (fun _ i _ => (5 - intOf i).toNat)
     case atStart => exact ⟨0, 0, g, by omega, rfl, rfl, HG.out, HZ1.out, HST.out, HB.out⟩
     case round =>
       clear HG HZ1 HST HB
       obtain ⟨j, o, h, hj, rfl, rfl, hg, hz1, hcar, hb⟩ := hrel
       by_cases hjl : j < 5
       · have hjI : (j : Int) < 5 := by omega
         have hbd := hcar.bound hjl
         have hstep := hcar.step hjl
         have c0 : wr.cell? ⟨w.heap.size, j, none⟩ = some (.int .u64 (h j : Nat)) := by rw [cell_of_row _ _ _ _ _ _ hg]; exact ecell_get _ _ hjl
         have f0 : wr.frozen? ⟨w.heap.size, j, none⟩ = false := frozen_of_row _ _ _ _ _ hg
         have HSET := Box.mk (ecell_set h j hjl)
         obtain ⟨x, hx⟩ : ∃ x, x = h j + o := ⟨_, rfl⟩
         rw [← hx] at hbd hstep
         have hxI : IntKind.u64.wrap (((h j : Nat) : Int) + (o : Int)) = (x : Int) := by rw [IntKind.wrap_u64]; omega
         generalize h j = y at c0 hxI
         have hand := and51 x hbd
         obtain ⟨d, hd⟩ : ∃ d, d = x / 2251799813685248 := ⟨_, rfl⟩
         obtain ⟨r, hr⟩ : ∃ r, r = x % 2251799813685248 := ⟨_, rfl⟩
         rw [← hr] at hand hstep
         rw [← hd] at hstep
         have hdiv : (x : Int) / 2251799813685248 = (d : Int) := by omega
         have HG := Box.mk hg; have HZ1 := Box.mk hz1; have HB := Box.mk hb; have HSTEP := Box.mk hstep
         clear hg hz1 hb hstep hcar hx hd hr
         go_wp2
         refine ⟨⟨j + 1, d, upd h j r, by omega, by go_num, rfl, ?_, ?_, HSTEP.out, (HB.out.setCell (Nat.le_refl _) _).setCell (Nat.le_refl _) _⟩, by simp [intOf]; omega⟩
         · rw [heap_setCell_same _ _ _ _ _ _ (heap_setCell_same _ _ _ _ _ _ HG.out), HSET.out x _ rfl, ecell_set _ j hjl r _ rfl, upd_upd]
         · rw [heap_setCell_other _ _ _ _ (by simp), heap_setCell_other _ _ _ _ (by simp)]; exact HZ1.out
       · obtain rfl : j = 5 := by omega
         obtain ⟨hl2, hv2, hx2⟩ := hcar.done
         have c0 : wr.cell? ⟨w.heap.size, 0, none⟩ = some (.int .u64 (h 0 : Nat)) := by rw [cell_of_row _ _ _ _ _ _ hg]; exact ecell_get _ _ (by omega)
         have f0 : wr.frozen? ⟨w.heap.size, 0, none⟩ = false := frozen_of_row _ _ _ _ _ hg
         have HSET := Box.mk (ecell_set h 0 (by omega))
         obtain ⟨q, hq⟩ : ∃ q, q = 19 * o := ⟨_, rfl⟩
         obtain ⟨x, hx⟩ : ∃ x, x = h 0 + q := ⟨_, rfl⟩
         rw [← hq, ← hx] at hl2 hv2 hx2
         have hqI : IntKind.u64.wrap (19 * (o : Int)) = (q : Int) := by rw [IntKind.wrap_u64]; omega
         have hxI : IntKind.u64.wrap (((h 0 : Nat) : Int) + (q : Int)) = (x : Int) := by rw [IntKind.wrap_u64]; omega
         generalize h 0 = y at c0 hxI
         have HG := Box.mk hg; have HZ1 := Box.mk hz1; have HB := Box.mk hb; have HL2 := Box.mk hl2; have HV2 := Box.mk hv2
         clear hg hz1 hb hcar hl2 hv2 hx hq
         go_wp2
         refine ⟨⟨k + 1, upd h 0 x, by omega, by go_num, ?_, ?_, HL2.out, HV2.out.trans HVAL.out, HB.out.setCell (Nat.le_refl _) _⟩, by simp [intOf]; omega⟩
         · rw [heap_setCell_same _ _ _ _ _ _ HG.out, HSET.out x _ rfl]
         · rw [heap_setCell_other _ _ _ _ (by simp)]; exact HZ1.out
   · obtain rfl : k = 2 := by omega
     have HG := Box.mk hg; have HLIM := Box.mk hlim
     have h1 : (ecell g).all (·.oneCell') = true := by simp [ecell, Value.oneCell']
     have H1 := Box.mk h1
     clear hg hlim h1
     go_wp2_with (first
       | ((with_reducible refine wpList_load_row rfl 56 (.tmp 1) rfl w.heap.size ?_ 56 (ecell g) (0, 0) _ HG.out Tryz.underlying56 ?_ ?_ ?_); rfl; rfl; kernel_rfl)
       | ((with_reducible refine wpList_store_row rfl 56 (.tmp 2) (.tmp 33) rfl (w.heap.size + 1) (ecell g) ?_ ?_ 56 z5 HZ1.out ?_ ?_ H1.out ?_); rfl; rfl; kernel_rfl; rfl))
     go_frame
     refine bodyPost_ret (results_cell_row (p := 2) (ty := 56) rfl _ _ (w.heap.size + 1) 56 (ecell g) (0, 0) _ rfl (setRow_heap _ _ _ _ _ _ HZ1.out) Tryz.underlying56 rfl (by kernel_rfl)) rfl ⟨g, rfl, HLIM.out, HVAL.out, ?_⟩
     exact below_setRow HB.out (by omega) _
open Go Go.RowKit
theorem wpList_loadE {ops : Array Oper} {rest : List Oper} {o : Oper} {a : Act} {w : World} {Q : Exit → Act → World → Prop} (hgd : o.guard = none) (x : Operand) (ho : o.op = .load 56 x)
   (g : Nat) (f : Nat → Nat) (hg : w.heap[g]? = some (.cells (ecell f) 56 (0, 0))) (hx : a.eval x = .pointer (some ⟨g, 0, none⟩))
   (h : wpList Tryz.prog ops Q rest (a.put o.dst (.agg (ecell f))) w) : wpList Tryz.prog ops Q (o :: rest) a w :=
 wpList_load_row hgd 56 x ho g hx 56 (ecell f) (0, 0) _ hg Tryz.underlying56 rfl (by kernel_rfl) h
theorem ecell_one (f : Nat → Nat) : (ecell f).all (·.oneCell') = true := by simp [ecell, Value.oneCell']
theorem wpList_storeE {ops : Array Oper} {rest : List Oper} {o : Oper} {a : Act} {w : World} {Q : Exit → Act → World → Prop} (hgd : o.guard = none) (x y : Operand) (ho : o.op = .store 56 x y)
   (g : Nat) (f f0 : Nat → Nat) (hg : w.heap[g]? = some (.cells (ecell f0) 56 (0, 0))) (hx : a.eval x = .pointer (some ⟨g, 0, none⟩)) (hy : a.eval y = .agg (ecell f))
   (h : wpList Tryz.prog ops Q rest (a.put o.dst undef) (w.setRow g (ecell f))) : wpList Tryz.prog ops Q (o :: rest) a w :=
 wpList_store_row hgd 56 x y ho g (ecell f) hx hy 56 (ecell f0) hg (by kernel_rfl) rfl (ecell_one f) h
theorem zeroE (w : World) : (zeroValue 56).run Tryz.prog w = .ok (.agg z5) w := by kernel_rfl
def f0 : Nat → Nat := fun _ => 0
set_option maxRecDepth 100000 in
set_option maxHeartbeats 2000000 in
theorem least_any (f : Nat → Nat) (hf : Lim 0 f) (w : World) :
   Calls Tryz.prog 94 #[.agg (ecell f)] w fun e w' => ∃ g, e = .returned (.agg (ecell g)) ∧ Lim 3 g ∧ lv g = lv f % fp ∧ Below w.heap.size w w' := by
 have hz := zeroE
 obtain ⟨W0, hW0⟩ : ∃ W, W = (w.alloc (.cells (ecell f) 56)).alloc (.cells z5 56) := ⟨_, rfl⟩
 have g0 : W0.heap[w.heap.size]? = some (.cells (ecell f) 56 (0, 0)) := by rw [hW0, heap_alloc_old _ _ (by simp)]; exact heap_alloc_new _ _
 have g1 : W0.heap[w.heap.size + 1]? = some (.cells (ecell f0) 56 (0, 0)) := by
   have := heap_alloc_new (w.alloc (.cells (ecell f) 56)) (.cells z5 56)
   rw [World.size_alloc] at this
   rw [hW0]; exact this
 have b0 : Below w.heap.size w W0 := by rw [hW0]; go_grown
 have z0 : W0.heap.size = w.heap.size + 2 := by rw [hW0]; simp
 have G0 := Box.mk g0; have G1 := Box.mk g1; have B0 := Box.mk b0; have HF := Box.mk hf; have Z0 := Box.mk z0
 clear g0 g1 b0 hf z0
 go_enter Tryz.func94, Tryz.ntmps94
 go_upto_region 1 with (fail)
 rw [← hW0]
 clear hW0
 go_wp2_with ((with_reducible refine wpList_loadE rfl (.tmp 1) rfl w.heap.size f G0.out ?_ ?_); rfl)
 refine (carried_any 0 f HF.out _).mono ?_
 rintro e w1 ⟨f1, rfl, hl1, hv1, hb1⟩
 have HL1 := Box.mk hl1; have HV1 := Box.mk hv1; have HB1 := Box.mk hb1
 clear hl1 hv1 hb1
 go_wp2_with fail
 refine (carried_any 2 f1 HL1.out _).mono ?_
 rintro e w2 ⟨f2, rfl, hl2, hv2, hb2⟩
 have hb02 : Below W0.heap.size W0 w2 := HB1.out.trans (hb2.mono HB1.out.size)
 have g2 : w2.heap[w.heap.size]? = some (.cells (ecell f) 56 (0, 0)) := (hb02.block _ (by have := Z0.out; omega)).trans G0.out
 have g3 : w2.heap[w.heap.size + 1]? = some (.cells (ecell f0) 56 (0, 0)) := (hb02.block _ (by have := Z0.out; omega)).trans G1.out
 have b2 : Below w.heap.size w w2 := B0.out.trans (hb02.mono B0.out.size)
 have z2 : w.heap.size + 2 ≤ w2.heap.size := by have := hb02.size; have := Z0.out; omega
 have hl2 := hl2.full (by omega)
 have HL2 := Box.mk hl2; have HV2 := Box.mk (hv2.trans HV1.out); have G2 := Box.mk g2
 obtain ⟨W3, hW3⟩ : ∃ W, W = w2.setRow w.heap.size (ecell f2) := ⟨_, rfl⟩
 have g4 : W3.heap[w.heap.size]? = some (.cells (ecell f2) 56 (0, 0)) := by rw [hW3]; exact setRow_heap _ _ _ _ _ _ g2
 have g5 : W3.heap[w.heap.size + 1]? = some (.cells (ecell f0) 56 (0, 0)) := by rw [hW3, setRow_other _ _ _ _ (by omega)]; exact g3
 have b3 : Below w.heap.size w W3 := by rw [hW3]; exact below_setRow b2 (Nat.le_refl _) _
 have z3 : W3.heap.size = w2.heap.size := by rw [hW3, setRow_size]
 have G4 := Box.mk g4; have G5 := Box.mk g5; have B3 := Box.mk b3; have Z3 := Box.mk z3
 clear hb02 g2 g3 b2 hl2 hv2 g4 g5 b3 z3 hb2
 go_upto_region 2 with ((with_reducible refine wpList_storeE rfl (.tmp 1) (.tmp 7) rfl w.heap.size f2 f G2.out ?_ ?_ ?_); rfl; rfl)
 go_frame
 rw [← hW3]
 clear hW3
 obtain ⟨bb, hbb⟩ : ∃ bb, bb = W3.heap.size := ⟨_, rfl⟩
 obtain ⟨W4, hW4⟩ : ∃ W, W = W3.alloc (.cells (ecell f2) 56) := ⟨_, rfl⟩
 have hbl : w.heap.size + 2 ≤ bb := by have := Z3.out; omega
 have g6 : W4.heap[w.heap.size]? = some (.cells (ecell f2) 56 (0, 0)) := by rw [hW4, heap_alloc_old _ _ (by omega)]; exact G4.out
 have g7 : W4.heap[w.heap.size + 1]? = some (.cells (ecell f0) 56 (0, 0)) := by rw [hW4, heap_alloc_old _ _ (by omega)]; exact G5.out
 have g8 : W4.heap[bb]? = some (.cells (ecell f2) 56 (0, 0)) := by rw [hW4, hbb]; exact heap_alloc_new _ _
 have b4 : Below w.heap.size w W4 := by rw [hW4]; exact B3.out.alloc (by omega) _
 have hst : ∀ W : World, (W.alloc (.cells z5 56)).heap[W.heap.size]? = some (.cells (ecell f0) 56 (0, 0)) := fun W => heap_alloc_new _ _
 have HST := Box.mk hst
 have G6 := Box.mk g6; have G7 := Box.mk g7; have G8 := Box.mk g8; have B4 := Box.mk b4
 clear g6 g7 g8 b4 hst
 go_upto_region 3 with (first
   | ((with_reducible refine wpList_loadE rfl (.tmp 1) rfl w.heap.size f2 G4.out ?_ ?_); rfl)
   | ((with_reducible refine wpList_storeE rfl (.tmp 3) (.tmp 8) rfl W3.heap.size f2 f0 (HST.out _) ?_ ?_ ?_); rfl; rfl))
 rw [World.setRow_alloc_new, ← hW4]
 go_frame
 rw [← hbb]
 clear hW4 hbb HST hz z2
 have hup := Up.start HL2.out
 have hbd0 := hup.bound (by omega)
 rw [upd_same] at hbd0
 obtain ⟨x0, hx0⟩ : ∃ x, x = f2 0 + 19 := ⟨_, rfl⟩
 rw [← hx0] at hup hbd0
 have c0 : W4.cell? ⟨bb, 0, none⟩ = some (.int .u64 (f2 0 : Nat)) := by rw [cell_of_row _ _ _ _ _ _ G8.out]; exact ecell_get _ _ (by omega)
 have fz : W4.frozen? ⟨bb, 0, none⟩ = false := frozen_of_row _ _ _ _ _ G8.out
 have hxI : IntKind.u64.wrap (((f2 0 : Nat) : Int) + 19) = (x0 : Int) := by rw [IntKind.wrap_u64]; omega
 have HSET := Box.mk (ecell_set f2 0 (by omega) x0 _ rfl)
 generalize f2 0 = y0 at c0 hxI
 have HUP := Box.mk hup
 clear hup hx0 hbd0
 go_wp2_with fail
 go_loopw [4, 13] (fun _ i wr => ∃ (j : Nat) (h : Nat → Nat), j ≤ 4 ∧ i = .int .i64 j ∧ wr.heap[bb]? = some (.cells (ecell h) 56 (0, 0)) ∧ wr.heap[w.heap.size]? = some (.cells (ecell f2) 56 (0, 0)) ∧ wr.heap[w.heap.size + 1]? = some (.cells (ecell f0) 56 (0, 0)) ∧ Up f2 j h ∧ Below w.heap.size w wr) (fun _ i _ => (4 - intOf i).toNat)
 case atStart => exact ⟨0, _, by omega, rfl, by rw [heap_setCell_same _ _ _ _ _ _ G8.out, HSET.out], by rw [heap_setCell_other _ _ _ _ (by simp; omega)]; exact G6.out, by rw [heap_setCell_other _ _ _ _ (by simp; omega)]; exact G7.out, HUP.out, B4.out.setCell (by simp; omega) _⟩
 case round =>
   clear c0 fz hxI HSET HUP G6 G7 G8 B4
   obtain ⟨j, h, hj, rfl, hg, ha, hrr, hup, hb⟩ := hrel
   by_cases hjl : j < 4
   · have hjI : (j : Int) < 4 := by omega
     have hbd := hup.bound (by omega : j < 5)
     have hbd2 := hup.up (j + 1) (by omega)
     have hb3 := hup.lim.m3 (by omega) (j + 1) (by omega)
     have hstep := hup.step hjl
     have hne : j + 1 ≠ j := by omega
     have hne2 : ¬ (j + 1 = j) := by omega
     have hne3 : ¬ (j = j + 1) := by omega
     have c0 : wr.cell? ⟨bb, j, none⟩ = some (.int .u64 (h j : Nat)) := by rw [cell_of_row _ _ _ _ _ _ hg]; exact ecell_get _ _ (by omega)
     have c1 : wr.cell? ⟨bb, j + 1, none⟩ = some (.int .u64 (h (j + 1) : Nat)) := by rw [cell_of_row _ _ _ _ _ _ hg]; exact ecell_get _ _ (by omega)
     have z0 : wr.frozen? ⟨bb, j, none⟩ = false := frozen_of_row _ _ _ _ _ hg
     have z1 : wr.frozen? ⟨bb, j + 1, none⟩ = false := frozen_of_row _ _ _ _ _ hg
     have HSET := Box.mk (ecell_set h (j + 1) (by omega))
     obtain ⟨d, hd⟩ : ∃ d, d = h j / 2251799813685248 := ⟨_, rfl⟩
     obtain ⟨r, hr⟩ : ∃ r, r = h j % 2251799813685248 := ⟨_, rfl⟩
     obtain ⟨x, hx⟩ : ∃ x, x = h (j + 1) + d := ⟨_, rfl⟩
     rw [← hd, ← hr, ← hx] at hstep
     have hand := and51 (h j) (by omega)
     rw [← hr] at hand
     have hdiv : ((h j : Nat) : Int) / 2251799813685248 = (d : Int) := by omega
     have hxI : IntKind.u64.wrap (((h (j + 1) : Nat) : Int) + (d : Int)) = (x : Int) := by rw [IntKind.wrap_u64]; omega
     have HSTEP := Box.mk hstep
     clear hbd hbd2 hb3 hstep hup
     generalize h j = y0 at c0 hand hdiv hd hr
     generalize h (j + 1) = y1 at c1 hxI hx
     have HG := Box.mk hg; have HA := Box.mk ha; have HRR := Box.mk hrr; have HB := Box.mk hb
     clear hg ha hrr hb hd hr hx
     go_wp2_with fail
     go_region
     go_wp2
     refine ⟨⟨j + 1, upd (upd h (j + 1) x) j r, by omega, by go_num, ?_, ?_, ?_, HSTEP.out, ((HB.out.setCell (by simp; omega) _).setCell (by simp; omega) _).drew⟩, by simp [intOf]; omega⟩
     · rw [heap_drew, heap_setCell_same _ _ _ _ _ _ (heap_setCell_same _ _ _ _ _ _ HG.out), HSET.out x _ rfl, ecell_set _ j (by omega) r _ rfl]
     · rw [heap_drew, heap_setCell_other _ _ _ _ (by simp; omega), heap_setCell_other _ _ _ _ (by simp; omega)]; exact HA.out
     · rw [heap_drew, heap_setCell_other _ _ _ _ (by simp; omega), heap_setCell_other _ _ _ _ (by simp; omega)]; exact HRR.out
   · obtain rfl : j = 4 := by omega
     obtain ⟨hlo, hhi⟩ := hup.least
     have hbd := hup.bound (by omega : 4 < 5)
     have c0 : wr.cell? ⟨bb, 4, none⟩ = some (.int .u64 (h 4 : Nat)) := by rw [cell_of_row _ _ _ _ _ _ hg]; exact ecell_get _ _ (by omega)
     have z0 : wr.frozen? ⟨bb, 4, none⟩ = false := frozen_of_row _ _ _ _ _ hg
     have HSET := Box.mk (ecell_set h 4 (by omega))
     obtain ⟨d, hd⟩ : ∃ d, d = h 4 / 2251799813685248 := ⟨_, rfl⟩
     obtain ⟨r, hr⟩ : ∃ r, r = h 4 % 2251799813685248 := ⟨_, rfl⟩
     rw [← hd] at hlo hhi
     rw [← hr] at hhi
     have hand := and51 (h 4) (by omega)
     rw [← hr] at hand
     have hdiv : ((h 4 : Nat) : Int) / 2251799813685248 = (d : Int) := by omega
     have HLO := Box.mk hlo; have HHI := Box.mk hhi
     clear hbd hup hlo hhi
     generalize h 4 = y0 at c0 hand hdiv hd hr
     have HG := Box.mk hg; have HA := Box.mk ha; have HRR := Box.mk hrr; have HB := Box.mk hb
     clear hg ha hrr hb hd hr
     by_cases hd0 : d = 0
     · have hdI : ((d : Int) == 0) = true := by simp; omega
       have HLV := Box.mk (HLO.out hd0)
       clear hand hd0
       go_wp2_with (first
         | ((with_reducible refine wpList_loadE rfl (.tmp 1) rfl w.heap.size f2 HA.out ?_ ?_); rfl)
         | ((with_reducible refine wpList_storeE rfl (.tmp 2) (.tmp 36) rfl (w.heap.size + 1) f2 f0 HRR.out ?_ ?_ ?_); rfl; rfl))
       go_frame
       refine bodyPost_ret (results_cell_row (p := 2) (ty := 56) rfl _ _ (w.heap.size + 1) 56 (ecell f2) (0, 0) _ rfl (setRow_heap _ _ _ _ _ _ HRR.out) Tryz.underlying56 rfl (by kernel_rfl)) rfl ⟨f2, rfl, HL2.out, by rw [← HV2.out, HLV.out], ?_⟩
       exact below_setRow HB.out (by omega) _
     · have hdI : ((d : Int) == 0) = false := by rw [beq_eq_false_iff_ne]; omega
       have HLV := Box.mk (HHI.out hd0)
       clear hd0
       obtain ⟨W6, hW6⟩ : ∃ W, W = wr.setCell ⟨bb, 4, none⟩ (.int .u64 (r : Int)) := ⟨_, rfl⟩
       have q1 : W6.heap[bb]? = some (.cells (ecell (upd h 4 r)) 56 (0, 0)) := by rw [hW6, heap_setCell_same _ _ _ _ _ _ HG.out, HSET.out r _ rfl]
       have q2 : W6.heap[w.heap.size + 1]? = some (.cells (ecell f0) 56 (0, 0)) := by rw [hW6, heap_setCell_other _ _ _ _ (by simp; omega)]; exact HRR.out
       have q3 : Below w.heap.size w W6 := by rw [hW6]; exact HB.out.setCell (by simp; omega) _
       have Q1 := Box.mk q1; have Q2 := Box.mk q2; have Q3 := Box.mk q3
       clear q1 q2 q3
       go_upto_region 13 with (fail)
       rw [← hW6]
       clear hW6 c0 z0
       go_wp2_with (first
         | ((with_reducible refine wpList_loadE rfl (.tmp 3) rfl bb (upd h 4 r) Q1.out ?_ ?_); rfl)
         | ((with_reducible refine wpList_storeE rfl (.tmp 2) (.tmp 41) rfl (w.heap.size + 1) (upd h 4 r) f0 Q2.out ?_ ?_ ?_); rfl; rfl))
       go_frame
       refine bodyPost_ret (results_cell_row (p := 2) (ty := 56) rfl _ _ (w.heap.size + 1) 56 (ecell (upd h 4 r)) (0, 0) _ rfl (setRow_heap _ _ _ _ _ _ Q2.out) Tryz.underlying56 rfl (by kernel_rfl)) rfl ⟨upd h 4 r, rfl, HLV.out.1, by rw [← HV2.out, HLV.out.2], ?_⟩
       exact below_setRow Q3.out (by omega) _
open Go Go.RowKit
def addF (f g : Nat → Nat) (i : Nat) : Nat → Nat := fun j => if j < i then f j + g j else f j
theorem addF_step (f g : Nat → Nat) (i : Nat) : upd (addF f g i) i (f i + g i) = addF f g (i + 1) := by
 funext j; unfold upd addF
 by_cases h : j = i
 · subst h; simp
 · rw [if_neg h]
   by_cases h2 : j < i
   · rw [if_pos h2, if_pos (by omega)]
   · rw [if_neg h2, if_neg (by omega)]
theorem addF_at (f g : Nat → Nat) (i : Nat) : addF f g i i = f i := by simp [addF]
theorem addF_lv (f g : Nat → Nat) : lv (addF f g 5) = lv f + lv g := by rw [lv_eq, lv_eq, lv_eq]; simp only [addF]; simp; omega
theorem Lim.lt52 {f : Nat → Nat} (h : Lim 2 f) (j : Nat) (hj : j < 5) : f j < 2251799813685267 := by
 rcases Nat.eq_zero_or_pos j with h0 | h0
 · subst h0; exact (h.m2 rfl).1
 · have := (h.m2 rfl).2 j h0 hj; omega
theorem addF_lim {f g : Nat → Nat} (hf : Lim 2 f) (hg : Lim 2 g) : Lim 0 (addF f g 5) :=
 ⟨fun _ j hj => by unfold addF; rw [if_pos hj]; have := hf.lt52 j hj; have := hg.lt52 j hj; omega, fun h => by omega, fun h => by omega, fun h => by omega⟩
def mr (j : Nat) : Nat := if j = 0 then 9007199254740916 else 9007199254740988
def subF (f g : Nat → Nat) (i : Nat) : Nat → Nat := fun j => if j < i then f j + (mr j - g j) else f j
theorem subF_step (f g : Nat → Nat) (i : Nat) : upd (subF f g i) i (f i + (mr i - g i)) = subF f g (i + 1) := by
 funext j; unfold upd subF
 by_cases h : j = i
 · subst h; simp
 · rw [if_neg h]
   by_cases h2 : j < i
   · rw [if_pos h2, if_pos (by omega)]
   · rw [if_neg h2, if_neg (by omega)]
theorem subF_at (f g : Nat → Nat) (i : Nat) : subF f g i i = f i := by simp [subF]
theorem subF_lv {f g : Nat → Nat} (hg : Lim 2 g) : lv (subF f g 5) + lv g = lv f + 4 * fp := by
 have h0 := hg.lt52 0 (by omega); have h1 := hg.lt52 1 (by omega); have h2 := hg.lt52 2 (by omega); have h3 := hg.lt52 3 (by omega); have h4 := hg.lt52 4 (by omega)
 rw [lv_eq, lv_eq, lv_eq, fp_eq]; simp only [subF, mr]; simp; omega
theorem subF_lim {f g : Nat → Nat} (hf : Lim 2 f) : Lim 0 (subF f g 5) :=
 ⟨fun _ j hj => by unfold subF mr; rw [if_pos hj]; have := hf.lt52 j hj; split <;> omega, fun h => by omega, fun h => by omega, fun h => by omega⟩
set_option maxRecDepth 100000 in
set_option maxHeartbeats 2000000 in
theorem add_any (f g : Nat → Nat) (hf : Lim 2 f) (hg : Lim 2 g) (w : World) :
   Calls Tryz.prog 61 #[.agg (ecell f), .agg (ecell g)] w fun e w' => ∃ h, e = .returned (.agg (ecell h)) ∧ Lim 2 h ∧ lv h % fp = lv (addF f g 5) % fp ∧ Below w.heap.size w w' := by
 have hz := zeroE
 obtain ⟨W0, hW0⟩ : ∃ W, W = ((w.alloc (.cells (ecell f) 56)).alloc (.cells (ecell g) 56)).alloc (.cells z5 56) := ⟨_, rfl⟩
 have g0 : W0.heap[w.heap.size]? = some (.cells (ecell (addF f g 0)) 56 (0, 0)) := by rw [hW0, heap_alloc_old _ _ (by simp; omega), heap_alloc_old _ _ (by simp)]; exact heap_alloc_new _ _
 have g1 : W0.heap[w.heap.size + 1]? = some (.cells (ecell g) 56 (0, 0)) := by
   have := heap_alloc_new (w.alloc (.cells (ecell f) 56)) (.cells (ecell g) 56)
   rw [World.size_alloc] at this
   rw [hW0, heap_alloc_old _ _ (by simp)]; exact this
 have g2 : W0.heap[w.heap.size + 2]? = some (.cells (ecell f0) 56 (0, 0)) := by
   have := heap_alloc_new ((w.alloc (.cells (ecell f) 56)).alloc (.cells (ecell g) 56)) (.cells z5 56)
   rw [World.size_alloc, World.size_alloc] at this
   rw [hW0]; exact this
 have b0 : Below w.heap.size w W0 := by rw [hW0]; go_grown
 have G0 := Box.mk g0; have G1 := Box.mk g1; have G2 := Box.mk g2; have B0 := Box.mk b0; have HF := Box.mk hf; have HG := Box.mk hg
 clear g0 g1 g2 b0 hf hg
 go_enter Tryz.func61, Tryz.ntmps61
 go_wp2_with fail
 rw [← hW0]
 clear hW0 hz
 go_loopw [5, 6] (fun _ i wr => ∃ j : Nat, j ≤ 5 ∧ i = .int .i64 j ∧ wr.heap[w.heap.size]? = some (.cells (ecell (addF f g j)) 56 (0, 0)) ∧ wr.heap[w.heap.size + 1]? = some (.cells (ecell g) 56 (0, 0)) ∧ wr.heap[w.heap.size + 2]? = some (.cells (ecell f0) 56 (0, 0)) ∧ Below w.heap.size w wr) (fun _ i _ => (5 - intOf i).toNat)
 case atStart => exact ⟨0, by omega, rfl, G0.out, G1.out, G2.out, B0.out⟩
 case round =>
   clear G0 G1 G2 B0
   obtain ⟨j, hj, rfl, ha, hb, hr, hbel⟩ := hrel
   by_cases hjl : j < 5
   · have hjI : (j : Int) < 5 := by omega
     have bf := HF.out.lt52 j hjl
     have bg := HG.out.lt52 j hjl
     have c0 : wr.cell? ⟨w.heap.size, j, none⟩ = some (.int .u64 (f j : Nat)) := by rw [cell_of_row _ _ _ _ _ _ ha, ecell_get _ _ hjl, addF_at]
     have c1 : wr.cell? ⟨w.heap.size + 1, j, none⟩ = some (.int .u64 (g j : Nat)) := by rw [cell_of_row _ _ _ _ _ _ hb]; exact ecell_get _ _ hjl
     have z0 : wr.frozen? ⟨w.heap.size, j, none⟩ = false := frozen_of_row _ _ _ _ _ ha
     have hst := addF_step f g j
     have HSET := Box.mk (ecell_set (addF f g j) j hjl)
     obtain ⟨x, hx⟩ : ∃ x, x = f j + g j := ⟨_, rfl⟩
     rw [← hx] at hst
     have hxI : IntKind.u64.wrap (((f j : Nat) : Int) + ((g j : Nat) : Int)) = (x : Int) := by rw [IntKind.wrap_u64]; omega
     have HST := Box.mk hst
     generalize f j = y0 at c0 hxI hx
     generalize g j = y1 at c1 hxI hx 
     have HA := Box.mk ha; have HB := Box.mk hb; have HR := Box.mk hr; have HBEL := Box.mk hbel
     clear ha hb hr hbel hst hx bf bg
     go_wp2_with fail
     go_region
     go_wp2
     refine ⟨⟨j + 1, by omega, by go_num, ?_, ?_, ?_, (HBEL.out.setCell (Nat.le_refl _) _).drew⟩, by simp [intOf]; omega⟩
     · rw [heap_drew, heap_setCell_same _ _ _ _ _ _ HA.out, HSET.out x _ rfl, HST.out]
     · rw [heap_drew, heap_setCell_other _ _ _ _ (by simp)]; exact HB.out
     · rw [heap_drew, heap_setCell_other _ _ _ _ (by simp)]; exact HR.out
   · obtain rfl : j = 5 := by omega
     have HA := Box.mk ha; have HR := Box.mk hr; have HBEL := Box.mk hbel
     clear ha hb hr hbel
     go_wp2_with ((with_reducible refine wpList_loadE rfl (.tmp 2) rfl w.heap.size (addF f g 5) HA.out ?_ ?_); rfl)
     refine (carried_any 0 (addF f g 5) (addF_lim HF.out HG.out) _).mono ?_
     rintro e w2 ⟨h, rfl, hl, hv, hb2⟩
     have hr2 : w2.heap[w.heap.size + 2]? = some (.cells (ecell f0) 56 (0, 0)) := (hb2.block _ (Array.getElem?_eq_some_iff.1 HR.out).1).trans HR.out
     have HR2 := Box.mk hr2; have HL := Box.mk hl; have HV := Box.mk hv; have HB2 := Box.mk (HBEL.out.trans (hb2.mono HBEL.out.size))
     clear hr2 hl hv hb2
     go_wp2_with ((with_reducible refine wpList_storeE rfl (.tmp 4) (.tmp 19) rfl (w.heap.size + 2) h f0 HR2.out ?_ ?_ ?_); rfl; rfl)
     go_frame
     refine bodyPost_ret (results_cell_row (p := 4) (ty := 56) rfl _ _ (w.heap.size + 2) 56 (ecell h) (0, 0) _ rfl (setRow_heap _ _ _ _ _ _ HR2.out) Tryz.underlying56 rfl (by kernel_rfl)) rfl ⟨h, rfl, HL.out, HV.out, ?_⟩
     exact below_setRow HB2.out (by omega) _
open Go Go.RowKit
theorem sub_any (f g : Nat → Nat) (hf : Lim 2 f) (hg : Lim 2 g) (w : World) :
   Calls Tryz.prog 59 #[.agg (ecell f), .agg (ecell g)] w fun e w' => ∃ h, e = .returned (.agg (ecell h)) ∧ Lim 2 h ∧ lv h % fp = lv (subF f g 5) % fp ∧ Below w.heap.size w w' := by
 have hz := zeroE
 obtain ⟨W0, hW0⟩ : ∃ W, W = ((w.alloc (.cells (ecell f) 56)).alloc (.cells (ecell g) 56)).alloc (.cells z5 56) := ⟨_, rfl⟩
 have g0 : W0.heap[w.heap.size]? = some (.cells (ecell (subF f g 0)) 56 (0, 0)) := by rw [hW0, heap_alloc_old _ _ (by simp; omega), heap_alloc_old _ _ (by simp)]; exact heap_alloc_new _ _
 have g1 : W0.heap[w.heap.size + 1]? = some (.cells (ecell g) 56 (0, 0)) := by
   have := heap_alloc_new (w.alloc (.cells (ecell f) 56)) (.cells (ecell g) 56)
   rw [World.size_alloc] at this
   rw [hW0, heap_alloc_old _ _ (by simp)]; exact this
 have g2 : W0.heap[w.heap.size + 2]? = some (.cells (ecell f0) 56 (0, 0)) := by
   have := heap_alloc_new ((w.alloc (.cells (ecell f) 56)).alloc (.cells (ecell g) 56)) (.cells z5 56)
   rw [World.size_alloc, World.size_alloc] at this
   rw [hW0]; exact this
 have b0 : Below w.heap.size w W0 := by rw [hW0]; go_grown
 have G0 := Box.mk g0; have G1 := Box.mk g1; have G2 := Box.mk g2; have B0 := Box.mk b0; have HF := Box.mk hf; have HG := Box.mk hg
 clear g0 g1 g2 b0 hf hg
 go_enter Tryz.func59, Tryz.ntmps59
 go_wp2_with fail
 rw [← hW0]
 clear hW0 hz
 go_loopw [5, 6, 7] (fun _ _ i wr => ∃ j : Nat, j ≤ 5 ∧ i = .int .i64 j ∧ wr.heap[w.heap.size]? = some (.cells (ecell (subF f g j)) 56 (0, 0)) ∧ wr.heap[w.heap.size + 1]? = some (.cells (ecell g) 56 (0, 0)) ∧ wr.heap[w.heap.size + 2]? = some (.cells (ecell f0) 56 (0, 0)) ∧ Below w.heap.size w wr) (fun _ _ i _ => (5 - intOf i).toNat)
 case atStart => exact ⟨0, by omega, rfl, G0.out, G1.out, G2.out, B0.out⟩
 case round =>
   clear G0 G1 G2 B0
   obtain ⟨j, hj, rfl, ha, hb, hr, hbel⟩ := hrel
   by_cases hjl : j < 5
   · have hjI : (j : Int) < 5 := by omega
     have bf := HF.out.lt52 j hjl
     have bg := HG.out.lt52 j hjl
     have c0 : wr.cell? ⟨w.heap.size, j, none⟩ = some (.int .u64 (f j : Nat)) := by rw [cell_of_row _ _ _ _ _ _ ha, ecell_get _ _ hjl, subF_at]
     have c1 : wr.cell? ⟨w.heap.size + 1, j, none⟩ = some (.int .u64 (g j : Nat)) := by rw [cell_of_row _ _ _ _ _ _ hb]; exact ecell_get _ _ hjl
     have z0 : wr.frozen? ⟨w.heap.size, j, none⟩ = false := frozen_of_row _ _ _ _ _ ha
     have hst := subF_step f g j
     have HSET := Box.mk (ecell_set (subF f g j) j hjl)
     obtain ⟨mm, hmm⟩ : ∃ mm, mm = mr j := ⟨_, rfl⟩
     obtain ⟨u, hu⟩ : ∃ u, u = mm - g j := ⟨_, rfl⟩
     obtain ⟨x, hx⟩ : ∃ x, x = f j + u := ⟨_, rfl⟩
     have hmb : 9007199254740916 ≤ mm ∧ mm ≤ 9007199254740988 := by rw [hmm]; unfold mr; split <;> omega
     rw [← hmm, ← hu, ← hx] at hst
     have huI : IntKind.u64.wrap ((mm : Int) - ((g j : Nat) : Int)) = (u : Int) := by rw [IntKind.wrap_u64]; omega
     have hxI : IntKind.u64.wrap (((f j : Nat) : Int) + (u : Int)) = (x : Int) := by rw [IntKind.wrap_u64]; omega
     have HST := Box.mk hst
     generalize f j = y0 at c0 hxI hx
     generalize g j = y1 at c1 hxI hx hu huI
     have HA := Box.mk ha; have HB := Box.mk hb; have HR := Box.mk hr; have HBEL := Box.mk hbel
     clear ha hb hr hbel hst hx bf bg
     clear hu
     have hw1 : IntKind.u64.wrap (9007199254740988 - 72) = 9007199254740916 := by rw [IntKind.wrap_u64]; omega
     by_cases hj0 : j = 0
     case' pos =>
       have hm0 : mm = 9007199254740916 := by rw [hmm, hj0]; rfl
       have hjb : ((j : Int) == 0) = true := by simp; omega
       subst hm0
       simp only [Int.cast_ofNat_Int] at huI
       clear hj0 hmm
       go_wp2_with fail
     case' neg =>
       have hm0 : mm = 9007199254740988 := by rw [hmm]; unfold mr; rw [if_neg hj0]
       have hjb : ((j : Int) == 0) = false := by rw [beq_eq_false_iff_ne]; omega
       subst hm0
       simp only [Int.cast_ofNat_Int] at huI
       clear hj0 hmm
       go_wp2_with fail
     all_goals
       go_region
       go_wp2
       refine ⟨⟨j + 1, by omega, by go_num, ?_, ?_, ?_, (HBEL.out.setCell (Nat.le_refl _) _).drew⟩, by simp [intOf]; omega⟩
       · rw [heap_drew, heap_setCell_same _ _ _ _ _ _ HA.out, HSET.out x _ rfl, HST.out]
       · rw [heap_drew, heap_setCell_other _ _ _ _ (by simp)]; exact HB.out
       · rw [heap_drew, heap_setCell_other _ _ _ _ (by simp)]; exact HR.out
   · obtain rfl : j = 5 := by omega
     have HA := Box.mk ha; have HR := Box.mk hr; have HBEL := Box.mk hbel
     clear ha hb hr hbel
     go_wp2_with ((with_reducible refine wpList_loadE rfl (.tmp 2) rfl w.heap.size (subF f g 5) HA.out ?_ ?_); rfl)
     refine (carried_any 0 (subF f g 5) (subF_lim HF.out) _).mono ?_
     rintro e w2 ⟨h, rfl, hl, hv, hb2⟩
     have hr2 : w2.heap[w.heap.size + 2]? = some (.cells (ecell f0) 56 (0, 0)) := (hb2.block _ (Array.getElem?_eq_some_iff.1 HR.out).1).trans HR.out
     have HR2 := Box.mk hr2; have HL := Box.mk hl; have HV := Box.mk hv; have HB2 := Box.mk (HBEL.out.trans (hb2.mono HBEL.out.size))
     clear hr2 hl hv hb2
     go_wp2_with ((with_reducible refine wpList_storeE rfl (.tmp 4) (.tmp 26) rfl (w.heap.size + 2) h f0 HR2.out ?_ ?_ ?_); rfl; rfl)
     go_frame
     refine bodyPost_ret (results_cell_row (p := 4) (ty := 56) rfl _ _ (w.heap.size + 2) 56 (ecell h) (0, 0) _ rfl (setRow_heap _ _ _ _ _ _ HR2.out) Tryz.underlying56 rfl (by kernel_rfl)) rfl ⟨h, rfl, HL.out, HV.out, ?_⟩
     exact below_setRow HB2.out (by omega) _
open Go Go.RowKit
def ps (f : Nat → Nat) : Nat → Nat
 | 0 => 0
 | k + 1 => ps f k + lw k * f k
theorem ps_lv (f : Nat → Nat) : ps f 5 = lv f := by
 rw [lv_eq]; simp [ps, lw]
theorem ps_upd (f : Nat → Nat) (i x : Nat) : ∀ k, k ≤ i → ps (upd f i x) k = ps f k
 | 0, _ => rfl
 | k + 1, h => by rw [ps, ps, ps_upd f i x k (by omega), upd_other _ _ _ _ (by omega)]
theorem lw_add (i k : Nat) : lw i * lw k = lw (i + k) := by unfold lw; rw [← Nat.pow_add]; congr 1; omega
theorem lw5 : lw 5 = fp + 19 := by rw [← fp_big]; rfl
def at5 (i k : Nat) : Nat := if 5 ≤ i + k then i + k - 5 else i + k
def y5 (b : Nat → Nat) (i k : Nat) : Nat := if 5 ≤ i + k then 19 * b k else b k
@[irreducible] def kk : Nat := 162259276829213363391578010288128
theorem kk_eq : kk = 162259276829213363391578010288128 := by unfold kk; first | done | rfl
structure Acc (a b : Nat → Nat) (i k : Nat) (A : Nat → Nat) : Prop where
 val : lv A % fp = (ps a i * lv b + lw i * a i * ps b k) % fp
 bd : ∀ j, j < 5 → A j ≤ (5 * i + k) * kk
theorem Acc.start (a b : Nat → Nat) : Acc a b 0 0 (fun _ => 0) := ⟨by rw [lv_eq]; simp [ps], fun j _ => by simp⟩
theorem Acc.term {a b : Nat → Nat} (ha : Lim 2 a) (hb : Lim 2 b) (i k : Nat) (hi : i < 5) (hk : k < 5) : a i * y5 b i k ≤ kk ∧ y5 b i k < 18446744073709551616 ∧ a i < 18446744073709551616 := by
 have h1 : a i < 2251799813685267 := by
   rcases Nat.eq_zero_or_pos i with h0 | h0
   · subst h0; exact (ha.m2 rfl).1
   · have := (ha.m2 rfl).2 i h0 hi; omega
 have h2 : b k < 2251799813685267 := by
   rcases Nat.eq_zero_or_pos k with h0 | h0
   · subst h0; exact (hb.m2 rfl).1
   · have := (hb.m2 rfl).2 k h0 hk; omega
 have h3 : y5 b i k ≤ 19 * 2251799813685267 := by unfold y5; split <;> omega
 refine ⟨Nat.le_trans (Nat.mul_le_mul (Nat.le_of_lt h1) h3) (by rw [kk_eq]; decide), by omega, by omega⟩
theorem Acc.step {a b A : Nat → Nat} {i k : Nat} (h : Acc a b i k A) (ha : Lim 2 a) (hb : Lim 2 b) (hi : i < 5) (hk : k < 5) : Acc a b i (k + 1) (upd A (at5 i k) (A (at5 i k) + a i * y5 b i k)) := by
 have hat : at5 i k < 5 := by unfold at5; split <;> omega
 have ht := (Acc.term ha hb i k hi hk).1
 refine ⟨?_, fun j hj => ?_⟩
 · have h1 := lv_upd A (at5 i k) (A (at5 i k) + a i * y5 b i k) hat
   rw [Nat.mul_add] at h1
   have e1 : lv (upd A (at5 i k) (A (at5 i k) + a i * y5 b i k)) = lv A + lw (at5 i k) * (a i * y5 b i k) := by omega
   rw [e1, ps, Nat.mul_add, ← Nat.add_assoc, Nat.add_mod, h.val, ← Nat.add_mod]
   have e2 : lw i * a i * (lw k * b k) = lw (i + k) * (a i * b k) := by
     rw [← lw_add]; simp only [Nat.mul_assoc]; congr 1; rw [← Nat.mul_assoc (a i), Nat.mul_comm (a i) (lw k), Nat.mul_assoc]
   rw [e2]
   unfold at5 y5
   by_cases h5 : 5 ≤ i + k
   · rw [if_pos h5, if_pos h5]
     have e3 : lw (i + k) = lw (i + k - 5) * (fp + 19) := by rw [← lw5, lw_add]; congr 1; omega
     rw [e3]
     have e4 : lw (i + k - 5) * (fp + 19) * (a i * b k) = lw (i + k - 5) * (a i * (19 * b k)) + fp * (lw (i + k - 5) * (a i * b k)) := by
       rw [Nat.mul_add, Nat.add_mul, Nat.add_comm, Nat.mul_comm (lw (i + k - 5)) fp, Nat.mul_assoc fp, Nat.mul_assoc (lw (i + k - 5)) 19]
       congr 2
       rw [← Nat.mul_assoc, Nat.mul_comm 19, Nat.mul_assoc]
     rw [e4, ← Nat.add_assoc, Nat.add_mul_mod_self_left]
   · rw [if_neg h5, if_neg h5]
 · by_cases e : j = at5 i k
   · subst e; rw [upd_same]; have := h.bd _ hat
     rw [show 5 * i + (k + 1) = (5 * i + k) + 1 from by omega, Nat.add_mul, Nat.one_mul]; omega
   · rw [upd_other _ _ _ _ e]; have := h.bd j hj
     rw [show 5 * i + (k + 1) = (5 * i + k) + 1 from by omega, Nat.add_mul, Nat.one_mul]; omega
theorem Acc.next {a b A : Nat → Nat} {i : Nat} (h : Acc a b i 5 A) : Acc a b (i + 1) 0 A := by
 refine ⟨?_, fun j hj => by have := h.bd j hj; rw [show 5 * (i + 1) + 0 = 5 * i + 5 from by omega]; exact this⟩
 rw [h.val, ps_lv]
 simp only [ps, Nat.add_mul, Nat.mul_zero, Nat.add_zero]
theorem Acc.all {a b A : Nat → Nat} (h : Acc a b 5 0 A) : lv A % fp = lv a * lv b % fp := by
 rw [h.val, ps_lv]; simp [ps]
theorem Acc.lt {a b A : Nat → Nat} {i k : Nat} (h : Acc a b i k A) (hi : 5 * i + k ≤ 25) (j : Nat) (hj : j < 5) : A j ≤ 4056481920730334084789450257203200 :=
 Nat.le_trans (h.bd j hj) (Nat.le_trans (Nat.mul_le_mul hi (Nat.le_refl _)) (by rw [kk_eq]; decide))
structure Chn (A : Nat → Nat) (i : Nat) (f : Nat → Nat) (c : Nat) : Prop where
 low : ∀ j, j < i → f j < 2251799813685248
 zero : ∀ j, i ≤ j → f j = 0
 val : ps f i + lw i * c = ps A i
 c : c ≤ 2305843009213693952
theorem Chn.start (A : Nat → Nat) : Chn A 0 (fun _ => 0) 0 := ⟨fun j hj => by omega, fun _ _ => rfl, by simp [ps], by omega⟩
theorem Chn.step {A f : Nat → Nat} {i c : Nat} (h : Chn A i f c) (hA : A i ≤ 4056481920730334084789450257203200) : Chn A (i + 1) (upd f i ((A i + c) % 2251799813685248)) ((A i + c) / 2251799813685248) := by
 have hc := h.c
 refine ⟨fun j hj => ?_, fun j hj => ?_, ?_, by omega⟩
 · by_cases e : j = i
   · subst e; rw [upd_same]; omega
   · rw [upd_other _ _ _ _ e]; exact h.low j (by omega)
 · rw [upd_other _ _ _ _ (by omega)]; exact h.zero j (by omega)
 · rw [ps, ps, ps_upd _ _ _ _ (Nat.le_refl _), upd_same, lw_succ, Nat.mul_assoc]
   have h3 := Nat.div_add_mod (A i + c) 2251799813685248
   have h4 := h.val
   generalize (A i + c) / 2251799813685248 = d at h3 ⊢
   generalize (A i + c) % 2251799813685248 = r at h3 ⊢
   have h5 : lw i * (2251799813685248 * d) + lw i * r = lw i * A i + lw i * c := by rw [← Nat.mul_add, ← Nat.mul_add, h3]
   omega
theorem Chn.done {A f : Nat → Nat} {c : Nat} (h : Chn A 5 f c) :
   Lim 0 (upd (upd f 0 ((f 0 + 19 * c) % 2251799813685248)) 1 (f 1 + (f 0 + 19 * c) / 2251799813685248)) ∧
     lv (upd (upd f 0 ((f 0 + 19 * c) % 2251799813685248)) 1 (f 1 + (f 0 + 19 * c) / 2251799813685248)) % fp = lv A % fp := by
 have l0 := h.low 0 (by omega); have l1 := h.low 1 (by omega)
 have hc := h.c
 refine ⟨⟨fun _ j hj => ?_, fun h => by omega, fun h => by omega, fun h => by omega⟩, ?_⟩
 · by_cases e1 : j = 1
   · subst e1; rw [upd_same]; omega
   · rw [upd_other _ _ _ _ e1]
     by_cases e0 : j = 0
     · subst e0; rw [upd_same]; omega
     · rw [upd_other _ _ _ _ e0]; have := h.low j hj; omega
 · have h1 := lv_upd f 0 ((f 0 + 19 * c) % 2251799813685248) (by omega)
   have h2 := lv_upd (upd f 0 ((f 0 + 19 * c) % 2251799813685248)) 1 (f 1 + (f 0 + 19 * c) / 2251799813685248) (by omega)
   rw [upd_other f _ _ 1 (by omega)] at h2
   have h3 := Nat.div_add_mod (f 0 + 19 * c) 2251799813685248
   have h4 := h.val
   rw [ps_lv, ps_lv, lw5, Nat.add_mul] at h4
   rw [show lw 0 = 1 from rfl] at h1
   rw [show lw 1 = 2251799813685248 from rfl] at h2
   generalize (f 0 + 19 * c) / 2251799813685248 = d at h2 h3 ⊢
   generalize (f 0 + 19 * c) % 2251799813685248 = r at h1 h2 h3 ⊢
   have e : lv A = lv (upd (upd f 0 r) 1 (f 1 + d)) + fp * c := by omega
   rw [e, Nat.add_mul_mod_self_left]
end Go.Proofs.YtafhncpaoolljaaGreat.Fe
