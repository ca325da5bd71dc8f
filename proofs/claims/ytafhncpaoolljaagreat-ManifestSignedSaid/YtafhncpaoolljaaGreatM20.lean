/- The package limbs: chain. -/
import Derived.Test.YtafhncpaoolljaaGreatM19
import Derived.Deep.RegionWith
import Derived.Deep.RegionHeld3
import Derived.Deep.DeepCutAuto
namespace Go.Proofs.YtafhncpaoolljaaGreat.Fe
set_option maxRecDepth 100000
set_option linter.unusedVariables false
open Go Go.RowKit
@[irreducible] def ek (n : Nat) : Nat := 2 ^ n - 1
theorem ek_eq (n : Nat) : ek n = 2 ^ n - 1 := by unfold ek; first | done | rfl
theorem ek_step (m n : Nat) : ek m * 2 ^ n + ek n = ek (m + n) := by
 rw [ek_eq, ek_eq, ek_eq, Nat.pow_add, Nat.mul_comm, Nat.mul_sub, Nat.mul_one, Nat.mul_comm (2 ^ n)]
 have h1 : 1 * 2 ^ n ≤ 2 ^ m * 2 ^ n := Nat.mul_le_mul (Nat.two_pow_pos m) (Nat.le_refl _)
 have h2 := Nat.two_pow_pos n
 omega
theorem pw_mul {x y z A e f : Nat} (hx : x % fp = A ^ e % fp) (hy : y % fp = A ^ f % fp) (hz : z % fp = x * y % fp) : z % fp = A ^ (e + f) % fp := by
 rw [hz, Nat.mul_mod, hx, hy, ← Nat.mul_mod, Nat.pow_add]
theorem pw_pow {x z A e n : Nat} (hx : x % fp = A ^ e % fp) (hz : z % fp = x ^ n % fp) : z % fp = A ^ (e * n) % fp := by
 rw [hz, Nat.pow_mod, hx, ← Nat.pow_mod, Nat.pow_mul]
theorem ecells {w : World} {b : Nat} {f : Nat → Nat} (h : w.heap[b]? = some (.cells (ecell f) 56 (0, 0))) :
   w.cell? ⟨b, 0, none⟩ = some (.int .u64 (f 0 : Nat)) ∧ w.cell? ⟨b, 1, none⟩ = some (.int .u64 (f 1 : Nat)) ∧ w.cell? ⟨b, 2, none⟩ = some (.int .u64 (f 2 : Nat)) ∧ w.cell? ⟨b, 3, none⟩ = some (.int .u64 (f 3 : Nat)) ∧ w.cell? ⟨b, 4, none⟩ = some (.int .u64 (f 4 : Nat)) :=
 ⟨cell_of_row _ _ 0 _ _ _ h, cell_of_row _ _ 1 _ _ _ h, cell_of_row _ _ 2 _ _ _ h, cell_of_row _ _ 3 _ _ _ h, cell_of_row _ _ 4 _ _ _ h⟩
theorem mul_from (W : World) {X : World} (a b : Nat → Nat) (ha : Lim 2 a) (hb : Lim 2 b) (hX : Below W.heap.size W X) :
   Calls Tryz.prog 58 #[.agg (ecell a), .agg (ecell b)] X fun e w' => ∃ h, e = .returned (.agg (ecell h)) ∧ (Lim 2 h ∧ lv h % fp = lv a * lv b % fp) ∧ (W.heap.size ≤ w'.heap.size ∧ Below W.heap.size W w') ∧ (∀ c o, c < W.heap.size → w'.cell? ⟨c, o, none⟩ = W.cell? ⟨c, o, none⟩) ∧ (∀ c o, c < W.heap.size → w'.frozen? ⟨c, o, none⟩ = W.frozen? ⟨c, o, none⟩) ∧ (∀ k, k < X.heap.size → w'.heap[k]? = X.heap[k]?) :=
 (mul_any a b ha hb X).mono fun e w' ⟨h, he, hl, hv, hbw⟩ => ⟨h, he, ⟨hl, hv⟩, ⟨Nat.le_trans hX.size hbw.size, hX.trans (hbw.mono hX.size)⟩, fun c o hc => (bcell (hX.trans (hbw.mono hX.size))).1 c o hc, fun c o hc => (bcell (hX.trans (hbw.mono hX.size))).2 c o hc, fun k hk => hbw.block k hk⟩
theorem power_from (W : World) {X : World} (a : Nat → Nat) (ha : Lim 2 a) (t : Nat) (ht : t ≤ 1000) (hX : Below W.heap.size W X) :
   Calls Tryz.prog 97 #[.agg (ecell a), .int .i64 t] X fun e w' => ∃ h, e = .returned (.agg (ecell h)) ∧ (Lim 2 h ∧ lv h % fp = lv a ^ (2 ^ t) % fp) ∧ (W.heap.size ≤ w'.heap.size ∧ Below W.heap.size W w') ∧ (∀ c o, c < W.heap.size → w'.cell? ⟨c, o, none⟩ = W.cell? ⟨c, o, none⟩) ∧ (∀ c o, c < W.heap.size → w'.frozen? ⟨c, o, none⟩ = W.frozen? ⟨c, o, none⟩) ∧ (∀ k, k < X.heap.size → w'.heap[k]? = X.heap[k]?) :=
 (power_any a ha t ht X).mono fun e w' ⟨h, he, hl, hv, hbw⟩ => ⟨h, he, ⟨hl, hv⟩, ⟨Nat.le_trans hX.size hbw.size, hX.trans (hbw.mono hX.size)⟩, fun c o hc => (bcell (hX.trans (hbw.mono hX.size))).1 c o hc, fun c o hc => (bcell (hX.trans (hbw.mono hX.size))).2 c o hc, fun k hk => hbw.block k hk⟩
theorem mul_lit (W : World) {X : World} (a b : Nat → Nat) (ha : Lim 2 a) (hb : Lim 2 b) (hX : Below W.heap.size W X) :
   Calls Tryz.prog 58 #[.agg #[.int .u64 (a 0 : Nat), .int .u64 (a 1 : Nat), .int .u64 (a 2 : Nat), .int .u64 (a 3 : Nat), .int .u64 (a 4 : Nat)], .agg #[.int .u64 (b 0 : Nat), .int .u64 (b 1 : Nat), .int .u64 (b 2 : Nat), .int .u64 (b 3 : Nat), .int .u64 (b 4 : Nat)]] X fun e w' => ∃ h : Nat → Nat, e = .returned (.agg #[.int .u64 (h 0 : Nat), .int .u64 (h 1 : Nat), .int .u64 (h 2 : Nat), .int .u64 (h 3 : Nat), .int .u64 (h 4 : Nat)]) ∧ (Lim 2 h ∧ lv h % fp = lv a * lv b % fp) ∧ (W.heap.size ≤ w'.heap.size ∧ Below W.heap.size W w') ∧ (∀ c o, c < W.heap.size → w'.cell? ⟨c, o, none⟩ = W.cell? ⟨c, o, none⟩) ∧ (∀ c o, c < W.heap.size → w'.frozen? ⟨c, o, none⟩ = W.frozen? ⟨c, o, none⟩) ∧ (∀ k, k < X.heap.size → w'.heap[k]? = X.heap[k]?) :=
 mul_from W a b ha hb hX
theorem power_lit (W : World) {X : World} (a : Nat → Nat) (ha : Lim 2 a) (t : Nat) (n : Int) (hn : n = t) (ht : t ≤ 1000) (hX : Below W.heap.size W X) :
   Calls Tryz.prog 97 #[.agg #[.int .u64 (a 0 : Nat), .int .u64 (a 1 : Nat), .int .u64 (a 2 : Nat), .int .u64 (a 3 : Nat), .int .u64 (a 4 : Nat)], .int .i64 n] X fun e w' => ∃ h : Nat → Nat, e = .returned (.agg #[.int .u64 (h 0 : Nat), .int .u64 (h 1 : Nat), .int .u64 (h 2 : Nat), .int .u64 (h 3 : Nat), .int .u64 (h 4 : Nat)]) ∧ (Lim 2 h ∧ lv h % fp = lv a ^ (2 ^ t) % fp) ∧ (W.heap.size ≤ w'.heap.size ∧ Below W.heap.size W w') ∧ (∀ c o, c < W.heap.size → w'.cell? ⟨c, o, none⟩ = W.cell? ⟨c, o, none⟩) ∧ (∀ c o, c < W.heap.size → w'.frozen? ⟨c, o, none⟩ = W.frozen? ⟨c, o, none⟩) ∧ (∀ k, k < X.heap.size → w'.heap[k]? = X.heap[k]?) := by
 subst hn; exact power_from W a ha t ht hX
theorem zero_kept {W w' : World} (h : ∀ k, k < (W.alloc (.cells #[.int .u64 0, .int .u64 0, .int .u64 0, .int .u64 0, .int .u64 0] 56)).heap.size → w'.heap[k]? = (W.alloc (.cells #[.int .u64 0, .int .u64 0, .int .u64 0, .int .u64 0, .int .u64 0] 56)).heap[k]?) :
   w'.heap[W.heap.size]? = some (.cells (ecell f0) 56 (0, 0)) := (h _ (by simp)).trans (heap_alloc_new _ _)
theorem zfr {w : World} {b : Nat} {f : Nat → Nat} (h : w.heap[b]? = some (.cells (ecell f) 56 (0, 0))) : ∀ o, w.frozen? ⟨b, o, none⟩ = false := fun o => frozen_of_row _ _ _ _ _ h
def AftC (a : Nat → Nat) (W : World) (n : Nat) (v : Value) (wx : World) : Prop :=
 ∃ (b : Nat) (h : Nat → Nat), v = .pointer (some ⟨b, 0, none⟩) ∧ wx.heap[b]? = some (.cells (ecell h) 56 (0, 0)) ∧ Lim 2 h ∧ lv h % fp = lv a ^ n % fp ∧ W.heap.size ≤ b ∧ Below W.heap.size W wx
theorem AftC.mk5 {a : Nat → Nat} {W X : World} {n b : Nat} {h g : Nat → Nat} (hb : X.heap[b]? = some (.cells (ecell g) 56 (0, 0))) (hB : W.heap.size ≤ b) (hX : Below W.heap.size W X) (hl : Lim 2 h) (hv : lv h % fp = lv a ^ n % fp) :
   AftC a W n (.pointer (some ⟨b, 0, none⟩)) (((((X.setCell ⟨b, 0, none⟩ (.int .u64 (h 0 : Nat))).setCell ⟨b, 1, none⟩ (.int .u64 (h 1 : Nat))).setCell ⟨b, 2, none⟩ (.int .u64 (h 2 : Nat))).setCell ⟨b, 3, none⟩ (.int .u64 (h 3 : Nat))).setCell ⟨b, 4, none⟩ (.int .u64 (h 4 : Nat))) := by
 refine ⟨b, h, rfl, ?_, hl, hv, hB, ((((hX.setCell hB _).setCell hB _).setCell hB _).setCell hB _).setCell hB _⟩
 rw [heap_setCell_same _ _ _ _ _ _ (heap_setCell_same _ _ _ _ _ _ (heap_setCell_same _ _ _ _ _ _ (heap_setCell_same _ _ _ _ _ _ (heap_setCell_same _ _ _ _ _ _ hb))))]
 rfl
theorem AftC.new {a : Nat → Nat} {W X : World} {n : Nat} {h : Nat → Nat} (hX : Below W.heap.size W X) (hl : Lim 2 h) (hv : lv h % fp = lv a ^ n % fp) :
   AftC a W n (.pointer (some ⟨X.heap.size, 0, none⟩)) (X.alloc (.cells #[.int .u64 (h 0 : Nat), .int .u64 (h 1 : Nat), .int .u64 (h 2 : Nat), .int .u64 (h 3 : Nat), .int .u64 (h 4 : Nat)] 56)) := ⟨_, h, rfl, heap_alloc_new _ _, hl, hv, hX.size, hX.alloc hX.size _⟩
theorem results_two_rows {P : Program} {fn : Func} {p q : Tmp} {ty : TypeId} (h : fn.results = #[.cell p ty, .cell q ty]) (tmps : Array Value) (w : World) (g k : Nat) (t : TypeId) (cs ds : Array Value) (d : TypeDesc)
   (hp : tmps.getD p undef = .pointer (some ⟨g, 0, none⟩)) (hg : w.heap[g]? = some (.cells cs t (0, 0))) (hq : tmps.getD q undef = .pointer (some ⟨k, 0, none⟩)) (hk : w.heap[k]? = some (.cells ds t (0, 0)))
   (hu : P.underlying ty = some d) (hd : (match d with | .struct _ | .array _ _ => true | _ => false) = true) (hi : (P.info? ty).map (·.size) = some cs.size) (hj : (P.info? ty).map (·.size) = some ds.size) :
   (results fn tmps).run P w = .ok (.tuple #[.agg cs, .agg ds]) w := by
 have hp' : tmps[p]?.getD undef = .pointer (some ⟨g, 0, none⟩) := by simpa using hp
 have hq' : tmps[q]?.getD undef = .pointer (some ⟨k, 0, none⟩) := by simpa using hq
 simp [results, h, hp', hq', asAddr, run_loadVar_row w g t ty cs (0, 0) d hg hu hd hi, run_loadVar_row w k t ty ds (0, 0) d hk hu hd hj]
def AftR (a : Nat → Nat) (w : World) (p q : Nat) (wx : World) : Prop :=
 ∃ h g : Nat → Nat, wx.heap[p]? = some (.cells (ecell h) 56 (0, 0)) ∧ wx.heap[q]? = some (.cells (ecell g) 56 (0, 0)) ∧ Lim 2 h ∧ lv h % fp = lv a ^ ek 250 % fp ∧ Lim 2 g ∧ lv g % fp = lv a ^ 11 % fp ∧ Below w.heap.size w wx
def st5 (w : World) (b : Nat) (h : Nat → Nat) : World :=
 ((((w.setCell ⟨b, 0, none⟩ (.int .u64 (h 0 : Nat))).setCell ⟨b, 1, none⟩ (.int .u64 (h 1 : Nat))).setCell ⟨b, 2, none⟩ (.int .u64 (h 2 : Nat))).setCell ⟨b, 3, none⟩ (.int .u64 (h 3 : Nat))).setCell ⟨b, 4, none⟩ (.int .u64 (h 4 : Nat))
theorem st5_row {w : World} {b : Nat} {g : Nat → Nat} (h : Nat → Nat) (hb : w.heap[b]? = some (.cells (ecell g) 56 (0, 0))) : (st5 w b h).heap[b]? = some (.cells (ecell h) 56 (0, 0)) := by
 unfold st5
 rw [heap_setCell_same _ _ _ _ _ _ (heap_setCell_same _ _ _ _ _ _ (heap_setCell_same _ _ _ _ _ _ (heap_setCell_same _ _ _ _ _ _ (heap_setCell_same _ _ _ _ _ _ hb))))]
 rfl
theorem st5_other (w : World) (b k : Nat) (h : Nat → Nat) (hne : k ≠ b) : (st5 w b h).heap[k]? = w.heap[k]? := by
 unfold st5
 rw [heap_setCell_other _ _ _ _ (by simpa using hne), heap_setCell_other _ _ _ _ (by simpa using hne), heap_setCell_other _ _ _ _ (by simpa using hne), heap_setCell_other _ _ _ _ (by simpa using hne), heap_setCell_other _ _ _ _ (by simpa using hne)]
theorem st5_below {B : Nat} {w0 w : World} (hb : Below B w0 w) (b : Nat) (h : Nat → Nat) (hB : B ≤ b) : Below B w0 (st5 w b h) := ((((hb.setCell hB _).setCell hB _).setCell hB _).setCell hB _).setCell hB _
set_option maxRecDepth 100000 in
set_option maxHeartbeats 4000000 in
theorem chain_any (a : Nat → Nat) (ha : Lim 2 a) (w : World) :
   Calls Tryz.prog 96 #[.agg (ecell a)] w fun e w' => ∃ h g, e = .returned (.tuple #[.agg (ecell h), .agg (ecell g)]) ∧ Lim 2 h ∧ lv h % fp = lv a ^ ek 250 % fp ∧ Lim 2 g ∧ lv g % fp = lv a ^ 11 % fp ∧ Below w.heap.size w w' := by
 have hz := zeroE
 obtain ⟨W0, hW0⟩ : ∃ W, W = ((w.alloc (.cells (ecell a) 56)).alloc (.cells z5 56)).alloc (.cells z5 56) := ⟨_, rfl⟩
 have g0 : W0.heap[w.heap.size]? = some (.cells (ecell a) 56 (0, 0)) := by rw [hW0, heap_alloc_old _ _ (by simp <;> omega), heap_alloc_old _ _ (by simp)]; exact heap_alloc_new _ _
 have r0 : W0.heap[w.heap.size + 1]? = some (.cells (ecell f0) 56 (0, 0)) := by
   have := heap_alloc_new (w.alloc (.cells (ecell a) 56)) (.cells z5 56)
   rw [World.size_alloc] at this
   rw [hW0, heap_alloc_old _ _ (by simp)]; exact this
 have r1 : W0.heap[w.heap.size + 2]? = some (.cells (ecell f0) 56 (0, 0)) := by
   have := heap_alloc_new ((w.alloc (.cells (ecell a) 56)).alloc (.cells z5 56)) (.cells z5 56)
   rw [World.size_alloc, World.size_alloc] at this
   rw [hW0]; exact this
 have b0 : Below w.heap.size w W0 := by rw [hW0]; go_grown
 obtain ⟨b1, hb1⟩ : ∃ b, b = w.heap.size := ⟨_, rfl⟩
 rw [← hb1] at g0 r0 r1
 have hbw : w.heap.size ≤ b1 := by omega
 have P1 := Box.mk g0; have R0 := Box.mk r0; have R1 := Box.mk r1; have B := Box.mk b0; have L1 := Box.mk ha
 have V1 := Box.mk (show lv a % fp = lv a ^ 1 % fp by rw [Nat.pow_one])
 obtain ⟨h1, hh1⟩ : ∃ h, h = a := ⟨_, rfl⟩
 rw [← hh1] at P1 L1 V1
 have V1 : Box (lv h1 % fp = lv a ^ 1 % fp) := ⟨by rw [hh1, Nat.pow_one]⟩
 clear g0 r0 r1 b0 ha hh1
 go_enter Tryz.func96, Tryz.ntmps96
 go_upto_region 1 with (fail)
 rw [← hW0]
 clear hW0
 rw [show w.heap.size + 1 + 1 = w.heap.size + 2 from rfl, ← hb1]
 clear hb1 hz
 go_cut [4] (fun v wx => AftC a W0 (2) v wx)
 case first =>
   have hz := zeroE
   go_wp2_with ((with_reducible refine wpList_loadE rfl (.tmp 1) rfl b1 h1 P1.out ?_ ?_); rfl)
   refine (mul_from W0 h1 h1 L1.out L1.out (Below.refl _ _)).mono ?_
   rintro e w6 ⟨h6, rfl, ⟨hl6, hv6⟩, ⟨hz6, hb6⟩, _⟩
   have HB6 := Box.mk hb6; have HL6 := Box.mk hl6; have HV6 := Box.mk hv6
   have hst : (w6.alloc (.cells z5 56)).heap[w6.heap.size]? = some (.cells (ecell f0) 56 (0, 0)) := heap_alloc_new _ _
   have HST := Box.mk hst
   clear hst hb6 hl6 hv6
   go_wp2_with ((with_reducible refine wpList_storeE rfl (.tmp 4) (.tmp 16) rfl w6.heap.size h6 f0 HST.out ?_ ?_ ?_); rfl; rfl)
   rw [World.setRow_alloc_new]
   go_wp2_with fail
   go_meet
   exact AftC.new HB6.out HL6.out (pw_mul V1.out V1.out HV6.out)
 case rest =>
   obtain ⟨b4, h4, rfl, p4, l4, v4, ge4, hbel⟩ := hcut
   have ge4 : b1 + 2 < b4 := by have := (Array.getElem?_eq_some_iff.1 R1.out).1; omega
   obtain ⟨W4, rfl⟩ : ∃ W : World, W = wc := ⟨_, rfl⟩
   have P1 := Box.mk ((hbel.block _ (Array.getElem?_eq_some_iff.1 P1.out).1).trans P1.out)
   have R0 := Box.mk ((hbel.block _ (Array.getElem?_eq_some_iff.1 R0.out).1).trans R0.out)
   have R1 := Box.mk ((hbel.block _ (Array.getElem?_eq_some_iff.1 R1.out).1).trans R1.out)
   have B := Box.mk (B.out.trans (hbel.mono B.out.size))
   have P4 := Box.mk p4; have L4 := Box.mk l4; have V4 := Box.mk v4
   clear p4 l4 v4 hbel
   go_upto_region 2 with (fail)
   go_cut [5] (fun v wx => AftC a W4 (9) v wx)
   case first =>
     obtain ⟨x0, x1, x2, x3, x4⟩ := ecells P4.out
     have lx : b4 < W4.heap.size := World.block_lt_of_cell? _ _ x0
     obtain ⟨y0, y1, y2, y3, y4⟩ := ecells P1.out
     have ly : b1 < W4.heap.size := World.block_lt_of_cell? _ _ y0
     go_region_held3 (fun w' => w'.cell? ⟨b4, 0, none⟩ = some (.int .u64 (h4 0 : Nat)) ∧ w'.cell? ⟨b4, 1, none⟩ = some (.int .u64 (h4 1 : Nat)) ∧ w'.cell? ⟨b4, 2, none⟩ = some (.int .u64 (h4 2 : Nat)) ∧ w'.cell? ⟨b4, 3, none⟩ = some (.int .u64 (h4 3 : Nat)) ∧ w'.cell? ⟨b4, 4, none⟩ = some (.int .u64 (h4 4 : Nat)) ∧ w'.cell? ⟨b1, 0, none⟩ = some (.int .u64 (h1 0 : Nat)) ∧ w'.cell? ⟨b1, 1, none⟩ = some (.int .u64 (h1 1 : Nat)) ∧ w'.cell? ⟨b1, 2, none⟩ = some (.int .u64 (h1 2 : Nat)) ∧ w'.cell? ⟨b1, 3, none⟩ = some (.int .u64 (h1 3 : Nat)) ∧ w'.cell? ⟨b1, 4, none⟩ = some (.int .u64 (h1 4 : Nat)))
       (simp [*, World.cell?_alloc_some, World.cell?_setCell_far, World.cell?_setCell_other])
       ((first
           | (go_at_call 97; (with_reducible refine (power_lit W4 h4 L4.out 2 2 rfl ?ht ?hX).mono ?_); (case ht => omega); (case hX => go_grown); rintro e w5 ⟨gA, rfl, hl5, ⟨hz5, hb5⟩, hcc5, hff5, hk5⟩; have lx := Nat.lt_of_lt_of_le lx hz5; have nx := Nat.ne_of_lt lx; have xn := Ne.symm nx; have ly := Nat.lt_of_lt_of_le ly hz5; have ny := Nat.ne_of_lt ly; have yn := Ne.symm ny; have HB5 := Box.mk hb5; have HL5 := Box.mk hl5; (try (have hzk := zero_kept hk5; have hzl := World.block_lt_of_cell? _ _ (ecells hzk).1; obtain ⟨n0, n1, n2, n3, n4⟩ := ecells hzk; have hzf := zfr hzk; have HZK := Box.mk hzk; clear hzk)); clear hb5 hk5 hl5)
           | (go_at_call 58; (with_reducible refine (mul_lit w5 gA h1 HL5.out.1 L1.out ?hX).mono ?_); (case hX => go_grown); rintro e w6 ⟨gB, rfl, hl6, ⟨hz6, hb6⟩, hcc6, hff6, hk6⟩; have HB6 := Box.mk hb6; have HL6 := Box.mk hl6; (try (have hzk := zero_kept hk6; have hzl := World.block_lt_of_cell? _ _ (ecells hzk).1; obtain ⟨n0, n1, n2, n3, n4⟩ := ecells hzk; have hzf := zfr hzk; have HZK := Box.mk hzk; clear hzk)); clear hb6 hk6 hl6)))
     all_goals
       have hvv := pw_mul (pw_pow V4.out HL5.out.2) V1.out HL6.out.2
       rw [show 2 * 2 ^ 2 + 1 = 9 from rfl] at hvv
       have HVV := Box.mk hvv
       have hbel := HB5.out.trans (HB6.out.mono HB5.out.size)
       have HBEL := Box.mk hbel
       clear hvv hbel
       go_wp2_with fail
       go_meet
       first
       | (with_reducible exact AftC.new HBEL.out HL6.out.1 HVV.out)
       | (with_reducible exact AftC.mk5 HZK.out HB5.out.size HBEL.out HL6.out.1 HVV.out)
       | (with_reducible exact AftC.mk5 ((HB6.out.block _ hzl).trans HZK.out) (Nat.le_refl _) HBEL.out HL6.out.1 HVV.out)
   case rest =>
     obtain ⟨b5, h5, rfl, p5, l5, v5, ge5, hbel⟩ := hcut
     have ge5 : b1 + 2 < b5 := by have := (Array.getElem?_eq_some_iff.1 R1.out).1; omega
     obtain ⟨W5, rfl⟩ : ∃ W : World, W = wc := ⟨_, rfl⟩
     have P1 := Box.mk ((hbel.block _ (Array.getElem?_eq_some_iff.1 P1.out).1).trans P1.out)
     have P4 := Box.mk ((hbel.block _ (Array.getElem?_eq_some_iff.1 P4.out).1).trans P4.out)
     have R0 := Box.mk ((hbel.block _ (Array.getElem?_eq_some_iff.1 R0.out).1).trans R0.out)
     have R1 := Box.mk ((hbel.block _ (Array.getElem?_eq_some_iff.1 R1.out).1).trans R1.out)
     have B := Box.mk (B.out.trans (hbel.mono B.out.size))
     have P5 := Box.mk p5; have L5 := Box.mk l5; have V5 := Box.mk v5
     clear p5 l5 v5 hbel
     go_upto_region 3 with (fail)
     go_cut [6] (fun v wx => AftC a W5 (11) v wx)
     case first =>
       have hz := zeroE
       go_wp2_with (first
         | ((with_reducible refine wpList_loadE rfl (.tmp 5) rfl b5 h5 P5.out ?_ ?_); rfl)
         | ((with_reducible refine wpList_loadE rfl (.tmp 4) rfl b4 h4 P4.out ?_ ?_); rfl))
       refine (mul_from W5 h5 h4 L5.out L4.out (Below.refl _ _)).mono ?_
       rintro e w6 ⟨h6, rfl, ⟨hl6, hv6⟩, ⟨hz6, hb6⟩, _⟩
       have HB6 := Box.mk hb6; have HL6 := Box.mk hl6; have HV6 := Box.mk hv6
       have hst : (w6.alloc (.cells z5 56)).heap[w6.heap.size]? = some (.cells (ecell f0) 56 (0, 0)) := heap_alloc_new _ _
       have HST := Box.mk hst
       clear hst hb6 hl6 hv6
       go_wp2_with ((with_reducible refine wpList_storeE rfl (.tmp 6) (.tmp 23) rfl w6.heap.size h6 f0 HST.out ?_ ?_ ?_); rfl; rfl)
       rw [World.setRow_alloc_new]
       go_wp2_with fail
       go_meet
       exact AftC.new HB6.out HL6.out (pw_mul V5.out V4.out HV6.out)
     case rest =>
       obtain ⟨b6, h6, rfl, p6, l6, v6, ge6, hbel⟩ := hcut
       have ge6 : b1 + 2 < b6 := by have := (Array.getElem?_eq_some_iff.1 R1.out).1; omega
       obtain ⟨W6, rfl⟩ : ∃ W : World, W = wc := ⟨_, rfl⟩
       have P1 := Box.mk ((hbel.block _ (Array.getElem?_eq_some_iff.1 P1.out).1).trans P1.out)
       have P4 := Box.mk ((hbel.block _ (Array.getElem?_eq_some_iff.1 P4.out).1).trans P4.out)
       have P5 := Box.mk ((hbel.block _ (Array.getElem?_eq_some_iff.1 P5.out).1).trans P5.out)
       have R0 := Box.mk ((hbel.block _ (Array.getElem?_eq_some_iff.1 R0.out).1).trans R0.out)
       have R1 := Box.mk ((hbel.block _ (Array.getElem?_eq_some_iff.1 R1.out).1).trans R1.out)
       have B := Box.mk (B.out.trans (hbel.mono B.out.size))
       have P6 := Box.mk p6; have L6 := Box.mk l6; have V6 := Box.mk v6
       clear p6 l6 v6 hbel
       go_upto_region 4 with (fail)
       go_cut [7] (fun v wx => AftC a W6 (ek 5) v wx)
       case first =>
         obtain ⟨x0, x1, x2, x3, x4⟩ := ecells P6.out
         have lx : b6 < W6.heap.size := World.block_lt_of_cell? _ _ x0
         obtain ⟨y0, y1, y2, y3, y4⟩ := ecells P5.out
         have ly : b5 < W6.heap.size := World.block_lt_of_cell? _ _ y0
         go_region_held3 (fun w' => w'.cell? ⟨b6, 0, none⟩ = some (.int .u64 (h6 0 : Nat)) ∧ w'.cell? ⟨b6, 1, none⟩ = some (.int .u64 (h6 1 : Nat)) ∧ w'.cell? ⟨b6, 2, none⟩ = some (.int .u64 (h6 2 : Nat)) ∧ w'.cell? ⟨b6, 3, none⟩ = some (.int .u64 (h6 3 : Nat)) ∧ w'.cell? ⟨b6, 4, none⟩ = some (.int .u64 (h6 4 : Nat)) ∧ w'.cell? ⟨b5, 0, none⟩ = some (.int .u64 (h5 0 : Nat)) ∧ w'.cell? ⟨b5, 1, none⟩ = some (.int .u64 (h5 1 : Nat)) ∧ w'.cell? ⟨b5, 2, none⟩ = some (.int .u64 (h5 2 : Nat)) ∧ w'.cell? ⟨b5, 3, none⟩ = some (.int .u64 (h5 3 : Nat)) ∧ w'.cell? ⟨b5, 4, none⟩ = some (.int .u64 (h5 4 : Nat)))
           (simp [*, World.cell?_alloc_some, World.cell?_setCell_far, World.cell?_setCell_other])
           ((first
               | (go_at_call 58; (with_reducible refine (mul_lit W6 h6 h6 L6.out L6.out ?hX).mono ?_); (case hX => go_grown); rintro e w5 ⟨gA, rfl, hl5, ⟨hz5, hb5⟩, hcc5, hff5, hk5⟩; have lx := Nat.lt_of_lt_of_le lx hz5; have nx := Nat.ne_of_lt lx; have xn := Ne.symm nx; have ly := Nat.lt_of_lt_of_le ly hz5; have ny := Nat.ne_of_lt ly; have yn := Ne.symm ny; have HB5 := Box.mk hb5; have HL5 := Box.mk hl5; (try (have hzk := zero_kept hk5; have hzl := World.block_lt_of_cell? _ _ (ecells hzk).1; obtain ⟨n0, n1, n2, n3, n4⟩ := ecells hzk; have hzf := zfr hzk; have HZK := Box.mk hzk; clear hzk)); clear hb5 hk5 hl5)
               | (go_at_call 58; (with_reducible refine (mul_lit w5 gA h5 HL5.out.1 L5.out ?hX).mono ?_); (case hX => go_grown); rintro e w6 ⟨gB, rfl, hl6, ⟨hz6, hb6⟩, hcc6, hff6, hk6⟩; have HB6 := Box.mk hb6; have HL6 := Box.mk hl6; (try (have hzk := zero_kept hk6; have hzl := World.block_lt_of_cell? _ _ (ecells hzk).1; obtain ⟨n0, n1, n2, n3, n4⟩ := ecells hzk; have hzf := zfr hzk; have HZK := Box.mk hzk; clear hzk)); clear hb6 hk6 hl6)))
         all_goals
           have hvv := pw_mul (pw_mul V6.out V6.out HL5.out.2) V5.out HL6.out.2
           rw [show 11 + 11 + 9 = ek 5 from by rw [ek_eq]] at hvv
           have HVV := Box.mk hvv
           have hbel := HB5.out.trans (HB6.out.mono HB5.out.size)
           have HBEL := Box.mk hbel
           clear hvv hbel
           go_wp2_with fail
           go_meet
           first
           | (with_reducible exact AftC.new HBEL.out HL6.out.1 HVV.out)
           | (with_reducible exact AftC.mk5 HZK.out HB5.out.size HBEL.out HL6.out.1 HVV.out)
           | (with_reducible exact AftC.mk5 ((HB6.out.block _ hzl).trans HZK.out) (Nat.le_refl _) HBEL.out HL6.out.1 HVV.out)
       case rest =>
         obtain ⟨b7, h7, rfl, p7, l7, v7, ge7, hbel⟩ := hcut
         have ge7 : b1 + 2 < b7 := by have := (Array.getElem?_eq_some_iff.1 R1.out).1; omega
         obtain ⟨W7, rfl⟩ : ∃ W : World, W = wc := ⟨_, rfl⟩
         have P1 := Box.mk ((hbel.block _ (Array.getElem?_eq_some_iff.1 P1.out).1).trans P1.out)
         have P4 := Box.mk ((hbel.block _ (Array.getElem?_eq_some_iff.1 P4.out).1).trans P4.out)
         have P5 := Box.mk ((hbel.block _ (Array.getElem?_eq_some_iff.1 P5.out).1).trans P5.out)
         have P6 := Box.mk ((hbel.block _ (Array.getElem?_eq_some_iff.1 P6.out).1).trans P6.out)
         have R0 := Box.mk ((hbel.block _ (Array.getElem?_eq_some_iff.1 R0.out).1).trans R0.out)
         have R1 := Box.mk ((hbel.block _ (Array.getElem?_eq_some_iff.1 R1.out).1).trans R1.out)
         have B := Box.mk (B.out.trans (hbel.mono B.out.size))
         have P7 := Box.mk p7; have L7 := Box.mk l7; have V7 := Box.mk v7
         clear p7 l7 v7 hbel
         go_upto_region 5 with (fail)
         go_cut [8] (fun v wx => AftC a W7 (ek 10) v wx)
         case first =>
           obtain ⟨x0, x1, x2, x3, x4⟩ := ecells P7.out
           have lx : b7 < W7.heap.size := World.block_lt_of_cell? _ _ x0
           go_region_held3 (fun w' => w'.cell? ⟨b7, 0, none⟩ = some (.int .u64 (h7 0 : Nat)) ∧ w'.cell? ⟨b7, 1, none⟩ = some (.int .u64 (h7 1 : Nat)) ∧ w'.cell? ⟨b7, 2, none⟩ = some (.int .u64 (h7 2 : Nat)) ∧ w'.cell? ⟨b7, 3, none⟩ = some (.int .u64 (h7 3 : Nat)) ∧ w'.cell? ⟨b7, 4, none⟩ = some (.int .u64 (h7 4 : Nat)))
             (simp [*, World.cell?_alloc_some, World.cell?_setCell_far, World.cell?_setCell_other])
             ((first
                 | (go_at_call 97; (with_reducible refine (power_lit W7 h7 L7.out 5 5 rfl ?ht ?hX).mono ?_); (case ht => omega); (case hX => go_grown); rintro e w5 ⟨gA, rfl, hl5, ⟨hz5, hb5⟩, hcc5, hff5, hk5⟩; have lx := Nat.lt_of_lt_of_le lx hz5; have nx := Nat.ne_of_lt lx; have xn := Ne.symm nx; have HB5 := Box.mk hb5; have HL5 := Box.mk hl5; (try (have hzk := zero_kept hk5; have hzl := World.block_lt_of_cell? _ _ (ecells hzk).1; obtain ⟨n0, n1, n2, n3, n4⟩ := ecells hzk; have hzf := zfr hzk; have HZK := Box.mk hzk; clear hzk)); clear hb5 hk5 hl5)
                 | (go_at_call 58; (with_reducible refine (mul_lit w5 gA h7 HL5.out.1 L7.out ?hX).mono ?_); (case hX => go_grown); rintro e w6 ⟨gB, rfl, hl6, ⟨hz6, hb6⟩, hcc6, hff6, hk6⟩; have HB6 := Box.mk hb6; have HL6 := Box.mk hl6; (try (have hzk := zero_kept hk6; have hzl := World.block_lt_of_cell? _ _ (ecells hzk).1; obtain ⟨n0, n1, n2, n3, n4⟩ := ecells hzk; have hzf := zfr hzk; have HZK := Box.mk hzk; clear hzk)); clear hb6 hk6 hl6)))
           all_goals
             have hvv := pw_mul (pw_pow V7.out HL5.out.2) V7.out HL6.out.2
             rw [ek_step 5 5] at hvv
             have HVV := Box.mk hvv
             have hbel := HB5.out.trans (HB6.out.mono HB5.out.size)
             have HBEL := Box.mk hbel
             clear hvv hbel
             go_wp2_with fail
             go_meet
             first
             | (with_reducible exact AftC.new HBEL.out HL6.out.1 HVV.out)
             | (with_reducible exact AftC.mk5 HZK.out HB5.out.size HBEL.out HL6.out.1 HVV.out)
             | (with_reducible exact AftC.mk5 ((HB6.out.block _ hzl).trans HZK.out) (Nat.le_refl _) HBEL.out HL6.out.1 HVV.out)
         case rest =>
           obtain ⟨b8, h8, rfl, p8, l8, v8, ge8, hbel⟩ := hcut
           have ge8 : b1 + 2 < b8 := by have := (Array.getElem?_eq_some_iff.1 R1.out).1; omega
           obtain ⟨W8, rfl⟩ : ∃ W : World, W = wc := ⟨_, rfl⟩
           have P1 := Box.mk ((hbel.block _ (Array.getElem?_eq_some_iff.1 P1.out).1).trans P1.out)
           have P4 := Box.mk ((hbel.block _ (Array.getElem?_eq_some_iff.1 P4.out).1).trans P4.out)
           have P5 := Box.mk ((hbel.block _ (Array.getElem?_eq_some_iff.1 P5.out).1).trans P5.out)
           have P6 := Box.mk ((hbel.block _ (Array.getElem?_eq_some_iff.1 P6.out).1).trans P6.out)
           have P7 := Box.mk ((hbel.block _ (Array.getElem?_eq_some_iff.1 P7.out).1).trans P7.out)
           have R0 := Box.mk ((hbel.block _ (Array.getElem?_eq_some_iff.1 R0.out).1).trans R0.out)
           have R1 := Box.mk ((hbel.block _ (Array.getElem?_eq_some_iff.1 R1.out).1).trans R1.out)
           have B := Box.mk (B.out.trans (hbel.mono B.out.size))
           have P8 := Box.mk p8; have L8 := Box.mk l8; have V8 := Box.mk v8
           clear p8 l8 v8 hbel
           go_upto_region 6 with (fail)
           go_cut [9] (fun v wx => AftC a W8 (ek 20) v wx)
           case first =>
             obtain ⟨x0, x1, x2, x3, x4⟩ := ecells P8.out
             have lx : b8 < W8.heap.size := World.block_lt_of_cell? _ _ x0
             go_region_held3 (fun w' => w'.cell? ⟨b8, 0, none⟩ = some (.int .u64 (h8 0 : Nat)) ∧ w'.cell? ⟨b8, 1, none⟩ = some (.int .u64 (h8 1 : Nat)) ∧ w'.cell? ⟨b8, 2, none⟩ = some (.int .u64 (h8 2 : Nat)) ∧ w'.cell? ⟨b8, 3, none⟩ = some (.int .u64 (h8 3 : Nat)) ∧ w'.cell? ⟨b8, 4, none⟩ = some (.int .u64 (h8 4 : Nat)))
               (simp [*, World.cell?_alloc_some, World.cell?_setCell_far, World.cell?_setCell_other])
               ((first
                   | (go_at_call 97; (with_reducible refine (power_lit W8 h8 L8.out 10 10 rfl ?ht ?hX).mono ?_); (case ht => omega); (case hX => go_grown); rintro e w5 ⟨gA, rfl, hl5, ⟨hz5, hb5⟩, hcc5, hff5, hk5⟩; have lx := Nat.lt_of_lt_of_le lx hz5; have nx := Nat.ne_of_lt lx; have xn := Ne.symm nx; have HB5 := Box.mk hb5; have HL5 := Box.mk hl5; (try (have hzk := zero_kept hk5; have hzl := World.block_lt_of_cell? _ _ (ecells hzk).1; obtain ⟨n0, n1, n2, n3, n4⟩ := ecells hzk; have hzf := zfr hzk; have HZK := Box.mk hzk; clear hzk)); clear hb5 hk5 hl5)
                   | (go_at_call 58; (with_reducible refine (mul_lit w5 gA h8 HL5.out.1 L8.out ?hX).mono ?_); (case hX => go_grown); rintro e w6 ⟨gB, rfl, hl6, ⟨hz6, hb6⟩, hcc6, hff6, hk6⟩; have HB6 := Box.mk hb6; have HL6 := Box.mk hl6; (try (have hzk := zero_kept hk6; have hzl := World.block_lt_of_cell? _ _ (ecells hzk).1; obtain ⟨n0, n1, n2, n3, n4⟩ := ecells hzk; have hzf := zfr hzk; have HZK := Box.mk hzk; clear hzk)); clear hb6 hk6 hl6)))
             all_goals
               have hvv := pw_mul (pw_pow V8.out HL5.out.2) V8.out HL6.out.2
               rw [ek_step 10 10] at hvv
               have HVV := Box.mk hvv
               have hbel := HB5.out.trans (HB6.out.mono HB5.out.size)
               have HBEL := Box.mk hbel
               clear hvv hbel
               go_wp2_with fail
               go_meet
               first
               | (with_reducible exact AftC.new HBEL.out HL6.out.1 HVV.out)
               | (with_reducible exact AftC.mk5 HZK.out HB5.out.size HBEL.out HL6.out.1 HVV.out)
               | (with_reducible exact AftC.mk5 ((HB6.out.block _ hzl).trans HZK.out) (Nat.le_refl _) HBEL.out HL6.out.1 HVV.out)
           case rest =>
             obtain ⟨b9, h9, rfl, p9, l9, v9, ge9, hbel⟩ := hcut
             have ge9 : b1 + 2 < b9 := by have := (Array.getElem?_eq_some_iff.1 R1.out).1; omega
             obtain ⟨W9, rfl⟩ : ∃ W : World, W = wc := ⟨_, rfl⟩
             have P1 := Box.mk ((hbel.block _ (Array.getElem?_eq_some_iff.1 P1.out).1).trans P1.out)
             have P4 := Box.mk ((hbel.block _ (Array.getElem?_eq_some_iff.1 P4.out).1).trans P4.out)
             have P5 := Box.mk ((hbel.block _ (Array.getElem?_eq_some_iff.1 P5.out).1).trans P5.out)
             have P6 := Box.mk ((hbel.block _ (Array.getElem?_eq_some_iff.1 P6.out).1).trans P6.out)
             have P7 := Box.mk ((hbel.block _ (Array.getElem?_eq_some_iff.1 P7.out).1).trans P7.out)
             have P8 := Box.mk ((hbel.block _ (Array.getElem?_eq_some_iff.1 P8.out).1).trans P8.out)
             have R0 := Box.mk ((hbel.block _ (Array.getElem?_eq_some_iff.1 R0.out).1).trans R0.out)
             have R1 := Box.mk ((hbel.block _ (Array.getElem?_eq_some_iff.1 R1.out).1).trans R1.out)
             have B := Box.mk (B.out.trans (hbel.mono B.out.size))
             have P9 := Box.mk p9; have L9 := Box.mk l9; have V9 := Box.mk v9
             clear p9 l9 v9 hbel
             go_upto_region 7 with (fail)
             go_cut [10] (fun v wx => AftC a W9 (ek 40) v wx)
             case first =>
               obtain ⟨x0, x1, x2, x3, x4⟩ := ecells P9.out
               have lx : b9 < W9.heap.size := World.block_lt_of_cell? _ _ x0
               go_region_held3 (fun w' => w'.cell? ⟨b9, 0, none⟩ = some (.int .u64 (h9 0 : Nat)) ∧ w'.cell? ⟨b9, 1, none⟩ = some (.int .u64 (h9 1 : Nat)) ∧ w'.cell? ⟨b9, 2, none⟩ = some (.int .u64 (h9 2 : Nat)) ∧ w'.cell? ⟨b9, 3, none⟩ = some (.int .u64 (h9 3 : Nat)) ∧ w'.cell? ⟨b9, 4, none⟩ = some (.int .u64 (h9 4 : Nat)))
                 (simp [*, World.cell?_alloc_some, World.cell?_setCell_far, World.cell?_setCell_other])
                 ((first
                     | (go_at_call 97; (with_reducible refine (power_lit W9 h9 L9.out 20 20 rfl ?ht ?hX).mono ?_); (case ht => omega); (case hX => go_grown); rintro e w5 ⟨gA, rfl, hl5, ⟨hz5, hb5⟩, hcc5, hff5, hk5⟩; have lx := Nat.lt_of_lt_of_le lx hz5; have nx := Nat.ne_of_lt lx; have xn := Ne.symm nx; have HB5 := Box.mk hb5; have HL5 := Box.mk hl5; (try (have hzk := zero_kept hk5; have hzl := World.block_lt_of_cell? _ _ (ecells hzk).1; obtain ⟨n0, n1, n2, n3, n4⟩ := ecells hzk; have hzf := zfr hzk; have HZK := Box.mk hzk; clear hzk)); clear hb5 hk5 hl5)
                     | (go_at_call 58; (with_reducible refine (mul_lit w5 gA h9 HL5.out.1 L9.out ?hX).mono ?_); (case hX => go_grown); rintro e w6 ⟨gB, rfl, hl6, ⟨hz6, hb6⟩, hcc6, hff6, hk6⟩; have HB6 := Box.mk hb6; have HL6 := Box.mk hl6; (try (have hzk := zero_kept hk6; have hzl := World.block_lt_of_cell? _ _ (ecells hzk).1; obtain ⟨n0, n1, n2, n3, n4⟩ := ecells hzk; have hzf := zfr hzk; have HZK := Box.mk hzk; clear hzk)); clear hb6 hk6 hl6)))
               all_goals
                 have hvv := pw_mul (pw_pow V9.out HL5.out.2) V9.out HL6.out.2
                 rw [ek_step 20 20] at hvv
                 have HVV := Box.mk hvv
                 have hbel := HB5.out.trans (HB6.out.mono HB5.out.size)
                 have HBEL := Box.mk hbel
                 clear hvv hbel
                 go_wp2_with fail
                 go_meet
                 first
                 | (with_reducible exact AftC.new HBEL.out HL6.out.1 HVV.out)
                 | (with_reducible exact AftC.mk5 HZK.out HB5.out.size HBEL.out HL6.out.1 HVV.out)
                 | (with_reducible exact AftC.mk5 ((HB6.out.block _ hzl).trans HZK.out) (Nat.le_refl _) HBEL.out HL6.out.1 HVV.out)
             case rest =>
               obtain ⟨b10, h10, rfl, p10, l10, v10, ge10, hbel⟩ := hcut
               have ge10 : b1 + 2 < b10 := by have := (Array.getElem?_eq_some_iff.1 R1.out).1; omega
               obtain ⟨W10, rfl⟩ : ∃ W : World, W = wc := ⟨_, rfl⟩
               have P1 := Box.mk ((hbel.block _ (Array.getElem?_eq_some_iff.1 P1.out).1).trans P1.out)
               have P4 := Box.mk ((hbel.block _ (Array.getElem?_eq_some_iff.1 P4.out).1).trans P4.out)
               have P5 := Box.mk ((hbel.block _ (Array.getElem?_eq_some_iff.1 P5.out).1).trans P5.out)
               have P6 := Box.mk ((hbel.block _ (Array.getElem?_eq_some_iff.1 P6.out).1).trans P6.out)
               have P7 := Box.mk ((hbel.block _ (Array.getElem?_eq_some_iff.1 P7.out).1).trans P7.out)
               have P8 := Box.mk ((hbel.block _ (Array.getElem?_eq_some_iff.1 P8.out).1).trans P8.out)
               have P9 := Box.mk ((hbel.block _ (Array.getElem?_eq_some_iff.1 P9.out).1).trans P9.out)
               have R0 := Box.mk ((hbel.block _ (Array.getElem?_eq_some_iff.1 R0.out).1).trans R0.out)
               have R1 := Box.mk ((hbel.block _ (Array.getElem?_eq_some_iff.1 R1.out).1).trans R1.out)
               have B := Box.mk (B.out.trans (hbel.mono B.out.size))
               have P10 := Box.mk p10; have L10 := Box.mk l10; have V10 := Box.mk v10
               clear p10 l10 v10 hbel
               go_upto_region 8 with (fail)
               go_cut [11] (fun v wx => AftC a W10 (ek 50) v wx)
               case first =>
                 obtain ⟨x0, x1, x2, x3, x4⟩ := ecells P10.out
                 have lx : b10 < W10.heap.size := World.block_lt_of_cell? _ _ x0
                 obtain ⟨y0, y1, y2, y3, y4⟩ := ecells P8.out
                 have ly : b8 < W10.heap.size := World.block_lt_of_cell? _ _ y0
                 go_region_held3 (fun w' => w'.cell? ⟨b10, 0, none⟩ = some (.int .u64 (h10 0 : Nat)) ∧ w'.cell? ⟨b10, 1, none⟩ = some (.int .u64 (h10 1 : Nat)) ∧ w'.cell? ⟨b10, 2, none⟩ = some (.int .u64 (h10 2 : Nat)) ∧ w'.cell? ⟨b10, 3, none⟩ = some (.int .u64 (h10 3 : Nat)) ∧ w'.cell? ⟨b10, 4, none⟩ = some (.int .u64 (h10 4 : Nat)) ∧ w'.cell? ⟨b8, 0, none⟩ = some (.int .u64 (h8 0 : Nat)) ∧ w'.cell? ⟨b8, 1, none⟩ = some (.int .u64 (h8 1 : Nat)) ∧ w'.cell? ⟨b8, 2, none⟩ = some (.int .u64 (h8 2 : Nat)) ∧ w'.cell? ⟨b8, 3, none⟩ = some (.int .u64 (h8 3 : Nat)) ∧ w'.cell? ⟨b8, 4, none⟩ = some (.int .u64 (h8 4 : Nat)))
                   (simp [*, World.cell?_alloc_some, World.cell?_setCell_far, World.cell?_setCell_other])
                   ((first
                       | (go_at_call 97; (with_reducible refine (power_lit W10 h10 L10.out 10 10 rfl ?ht ?hX).mono ?_); (case ht => omega); (case hX => go_grown); rintro e w5 ⟨gA, rfl, hl5, ⟨hz5, hb5⟩, hcc5, hff5, hk5⟩; have lx := Nat.lt_of_lt_of_le lx hz5; have nx := Nat.ne_of_lt lx; have xn := Ne.symm nx; have ly := Nat.lt_of_lt_of_le ly hz5; have ny := Nat.ne_of_lt ly; have yn := Ne.symm ny; have HB5 := Box.mk hb5; have HL5 := Box.mk hl5; (try (have hzk := zero_kept hk5; have hzl := World.block_lt_of_cell? _ _ (ecells hzk).1; obtain ⟨n0, n1, n2, n3, n4⟩ := ecells hzk; have hzf := zfr hzk; have HZK := Box.mk hzk; clear hzk)); clear hb5 hk5 hl5)
                       | (go_at_call 58; (with_reducible refine (mul_lit w5 gA h8 HL5.out.1 L8.out ?hX).mono ?_); (case hX => go_grown); rintro e w6 ⟨gB, rfl, hl6, ⟨hz6, hb6⟩, hcc6, hff6, hk6⟩; have HB6 := Box.mk hb6; have HL6 := Box.mk hl6; (try (have hzk := zero_kept hk6; have hzl := World.block_lt_of_cell? _ _ (ecells hzk).1; obtain ⟨n0, n1, n2, n3, n4⟩ := ecells hzk; have hzf := zfr hzk; have HZK := Box.mk hzk; clear hzk)); clear hb6 hk6 hl6)))
                 all_goals
                   have hvv := pw_mul (pw_pow V10.out HL5.out.2) V8.out HL6.out.2
                   rw [ek_step 40 10] at hvv
                   have HVV := Box.mk hvv
                   have hbel := HB5.out.trans (HB6.out.mono HB5.out.size)
                   have HBEL := Box.mk hbel
                   clear hvv hbel
                   go_wp2_with fail
                   go_meet
                   first
                   | (with_reducible exact AftC.new HBEL.out HL6.out.1 HVV.out)
                   | (with_reducible exact AftC.mk5 HZK.out HB5.out.size HBEL.out HL6.out.1 HVV.out)
                   | (with_reducible exact AftC.mk5 ((HB6.out.block _ hzl).trans HZK.out) (Nat.le_refl _) HBEL.out HL6.out.1 HVV.out)
               case rest =>
                 obtain ⟨b11, h11, rfl, p11, l11, v11, ge11, hbel⟩ := hcut
                 have ge11 : b1 + 2 < b11 := by have := (Array.getElem?_eq_some_iff.1 R1.out).1; omega
                 obtain ⟨W11, rfl⟩ : ∃ W : World, W = wc := ⟨_, rfl⟩
                 have P1 := Box.mk ((hbel.block _ (Array.getElem?_eq_some_iff.1 P1.out).1).trans P1.out)
                 have P4 := Box.mk ((hbel.block _ (Array.getElem?_eq_some_iff.1 P4.out).1).trans P4.out)
                 have P5 := Box.mk ((hbel.block _ (Array.getElem?_eq_some_iff.1 P5.out).1).trans P5.out)
                 have P6 := Box.mk ((hbel.block _ (Array.getElem?_eq_some_iff.1 P6.out).1).trans P6.out)
                 have P7 := Box.mk ((hbel.block _ (Array.getElem?_eq_some_iff.1 P7.out).1).trans P7.out)
                 have P8 := Box.mk ((hbel.block _ (Array.getElem?_eq_some_iff.1 P8.out).1).trans P8.out)
                 have P9 := Box.mk ((hbel.block _ (Array.getElem?_eq_some_iff.1 P9.out).1).trans P9.out)
                 have P10 := Box.mk ((hbel.block _ (Array.getElem?_eq_some_iff.1 P10.out).1).trans P10.out)
                 have R0 := Box.mk ((hbel.block _ (Array.getElem?_eq_some_iff.1 R0.out).1).trans R0.out)
                 have R1 := Box.mk ((hbel.block _ (Array.getElem?_eq_some_iff.1 R1.out).1).trans R1.out)
                 have B := Box.mk (B.out.trans (hbel.mono B.out.size))
                 have P11 := Box.mk p11; have L11 := Box.mk l11; have V11 := Box.mk v11
                 clear p11 l11 v11 hbel
                 go_upto_region 9 with (fail)
                 go_cut [12] (fun v wx => AftC a W11 (ek 100) v wx)
                 case first =>
                   obtain ⟨x0, x1, x2, x3, x4⟩ := ecells P11.out
                   have lx : b11 < W11.heap.size := World.block_lt_of_cell? _ _ x0
                   go_region_held3 (fun w' => w'.cell? ⟨b11, 0, none⟩ = some (.int .u64 (h11 0 : Nat)) ∧ w'.cell? ⟨b11, 1, none⟩ = some (.int .u64 (h11 1 : Nat)) ∧ w'.cell? ⟨b11, 2, none⟩ = some (.int .u64 (h11 2 : Nat)) ∧ w'.cell? ⟨b11, 3, none⟩ = some (.int .u64 (h11 3 : Nat)) ∧ w'.cell? ⟨b11, 4, none⟩ = some (.int .u64 (h11 4 : Nat)))
                     (simp [*, World.cell?_alloc_some, World.cell?_setCell_far, World.cell?_setCell_other])
                     ((first
                         | (go_at_call 97; (with_reducible refine (power_lit W11 h11 L11.out 50 50 rfl ?ht ?hX).mono ?_); (case ht => omega); (case hX => go_grown); rintro e w5 ⟨gA, rfl, hl5, ⟨hz5, hb5⟩, hcc5, hff5, hk5⟩; have lx := Nat.lt_of_lt_of_le lx hz5; have nx := Nat.ne_of_lt lx; have xn := Ne.symm nx; have HB5 := Box.mk hb5; have HL5 := Box.mk hl5; (try (have hzk := zero_kept hk5; have hzl := World.block_lt_of_cell? _ _ (ecells hzk).1; obtain ⟨n0, n1, n2, n3, n4⟩ := ecells hzk; have hzf := zfr hzk; have HZK := Box.mk hzk; clear hzk)); clear hb5 hk5 hl5)
                         | (go_at_call 58; (with_reducible refine (mul_lit w5 gA h11 HL5.out.1 L11.out ?hX).mono ?_); (case hX => go_grown); rintro e w6 ⟨gB, rfl, hl6, ⟨hz6, hb6⟩, hcc6, hff6, hk6⟩; have HB6 := Box.mk hb6; have HL6 := Box.mk hl6; (try (have hzk := zero_kept hk6; have hzl := World.block_lt_of_cell? _ _ (ecells hzk).1; obtain ⟨n0, n1, n2, n3, n4⟩ := ecells hzk; have hzf := zfr hzk; have HZK := Box.mk hzk; clear hzk)); clear hb6 hk6 hl6)))
                   all_goals
                     have hvv := pw_mul (pw_pow V11.out HL5.out.2) V11.out HL6.out.2
                     rw [ek_step 50 50] at hvv
                     have HVV := Box.mk hvv
                     have hbel := HB5.out.trans (HB6.out.mono HB5.out.size)
                     have HBEL := Box.mk hbel
                     clear hvv hbel
                     go_wp2_with fail
                     go_meet
                     first
                     | (with_reducible exact AftC.new HBEL.out HL6.out.1 HVV.out)
                     | (with_reducible exact AftC.mk5 HZK.out HB5.out.size HBEL.out HL6.out.1 HVV.out)
                     | (with_reducible exact AftC.mk5 ((HB6.out.block _ hzl).trans HZK.out) (Nat.le_refl _) HBEL.out HL6.out.1 HVV.out)
                 case rest =>
                   obtain ⟨b12, h12, rfl, p12, l12, v12, ge12, hbel⟩ := hcut
                   have ge12 : b1 + 2 < b12 := by have := (Array.getElem?_eq_some_iff.1 R1.out).1; omega
                   obtain ⟨W12, rfl⟩ : ∃ W : World, W = wc := ⟨_, rfl⟩
                   have P1 := Box.mk ((hbel.block _ (Array.getElem?_eq_some_iff.1 P1.out).1).trans P1.out)
                   have P4 := Box.mk ((hbel.block _ (Array.getElem?_eq_some_iff.1 P4.out).1).trans P4.out)
                   have P5 := Box.mk ((hbel.block _ (Array.getElem?_eq_some_iff.1 P5.out).1).trans P5.out)
                   have P6 := Box.mk ((hbel.block _ (Array.getElem?_eq_some_iff.1 P6.out).1).trans P6.out)
                   have P7 := Box.mk ((hbel.block _ (Array.getElem?_eq_some_iff.1 P7.out).1).trans P7.out)
                   have P8 := Box.mk ((hbel.block _ (Array.getElem?_eq_some_iff.1 P8.out).1).trans P8.out)
                   have P9 := Box.mk ((hbel.block _ (Array.getElem?_eq_some_iff.1 P9.out).1).trans P9.out)
                   have P10 := Box.mk ((hbel.block _ (Array.getElem?_eq_some_iff.1 P10.out).1).trans P10.out)
                   have P11 := Box.mk ((hbel.block _ (Array.getElem?_eq_some_iff.1 P11.out).1).trans P11.out)
                   have R0 := Box.mk ((hbel.block _ (Array.getElem?_eq_some_iff.1 R0.out).1).trans R0.out)
                   have R1 := Box.mk ((hbel.block _ (Array.getElem?_eq_some_iff.1 R1.out).1).trans R1.out)
                   have B := Box.mk (B.out.trans (hbel.mono B.out.size))
                   have P12 := Box.mk p12; have L12 := Box.mk l12; have V12 := Box.mk v12
                   clear p12 l12 v12 hbel
                   go_upto_region 10 with (fail)
                   go_cut [13] (fun v wx => AftC a W12 (ek 200) v wx)
                   case first =>
                     obtain ⟨x0, x1, x2, x3, x4⟩ := ecells P12.out
                     have lx : b12 < W12.heap.size := World.block_lt_of_cell? _ _ x0
                     go_region_held3 (fun w' => w'.cell? ⟨b12, 0, none⟩ = some (.int .u64 (h12 0 : Nat)) ∧ w'.cell? ⟨b12, 1, none⟩ = some (.int .u64 (h12 1 : Nat)) ∧ w'.cell? ⟨b12, 2, none⟩ = some (.int .u64 (h12 2 : Nat)) ∧ w'.cell? ⟨b12, 3, none⟩ = some (.int .u64 (h12 3 : Nat)) ∧ w'.cell? ⟨b12, 4, none⟩ = some (.int .u64 (h12 4 : Nat)))
                       (simp [*, World.cell?_alloc_some, World.cell?_setCell_far, World.cell?_setCell_other])
                       ((first
                           | (go_at_call 97; (with_reducible refine (power_lit W12 h12 L12.out 100 100 rfl ?ht ?hX).mono ?_); (case ht => omega); (case hX => go_grown); rintro e w5 ⟨gA, rfl, hl5, ⟨hz5, hb5⟩, hcc5, hff5, hk5⟩; have lx := Nat.lt_of_lt_of_le lx hz5; have nx := Nat.ne_of_lt lx; have xn := Ne.symm nx; have HB5 := Box.mk hb5; have HL5 := Box.mk hl5; (try (have hzk := zero_kept hk5; have hzl := World.block_lt_of_cell? _ _ (ecells hzk).1; obtain ⟨n0, n1, n2, n3, n4⟩ := ecells hzk; have hzf := zfr hzk; have HZK := Box.mk hzk; clear hzk)); clear hb5 hk5 hl5)
                           | (go_at_call 58; (with_reducible refine (mul_lit w5 gA h12 HL5.out.1 L12.out ?hX).mono ?_); (case hX => go_grown); rintro e w6 ⟨gB, rfl, hl6, ⟨hz6, hb6⟩, hcc6, hff6, hk6⟩; have HB6 := Box.mk hb6; have HL6 := Box.mk hl6; (try (have hzk := zero_kept hk6; have hzl := World.block_lt_of_cell? _ _ (ecells hzk).1; obtain ⟨n0, n1, n2, n3, n4⟩ := ecells hzk; have hzf := zfr hzk; have HZK := Box.mk hzk; clear hzk)); clear hb6 hk6 hl6)))
                     all_goals
                       have hvv := pw_mul (pw_pow V12.out HL5.out.2) V12.out HL6.out.2
                       rw [ek_step 100 100] at hvv
                       have HVV := Box.mk hvv
                       have hbel := HB5.out.trans (HB6.out.mono HB5.out.size)
                       have HBEL := Box.mk hbel
                       clear hvv hbel
                       go_wp2_with fail
                       go_meet
                       first
                       | (with_reducible exact AftC.new HBEL.out HL6.out.1 HVV.out)
                       | (with_reducible exact AftC.mk5 HZK.out HB5.out.size HBEL.out HL6.out.1 HVV.out)
                       | (with_reducible exact AftC.mk5 ((HB6.out.block _ hzl).trans HZK.out) (Nat.le_refl _) HBEL.out HL6.out.1 HVV.out)
                   case rest =>
                     obtain ⟨b13, h13, rfl, p13, l13, v13, ge13, hbel⟩ := hcut
                     have ge13 : b1 + 2 < b13 := by have := (Array.getElem?_eq_some_iff.1 R1.out).1; omega
                     obtain ⟨W13, rfl⟩ : ∃ W : World, W = wc := ⟨_, rfl⟩
                     have P1 := Box.mk ((hbel.block _ (Array.getElem?_eq_some_iff.1 P1.out).1).trans P1.out)
                     have P4 := Box.mk ((hbel.block _ (Array.getElem?_eq_some_iff.1 P4.out).1).trans P4.out)
                     have P5 := Box.mk ((hbel.block _ (Array.getElem?_eq_some_iff.1 P5.out).1).trans P5.out)
                     have P6 := Box.mk ((hbel.block _ (Array.getElem?_eq_some_iff.1 P6.out).1).trans P6.out)
                     have P7 := Box.mk ((hbel.block _ (Array.getElem?_eq_some_iff.1 P7.out).1).trans P7.out)
                     have P8 := Box.mk ((hbel.block _ (Array.getElem?_eq_some_iff.1 P8.out).1).trans P8.out)
                     have P9 := Box.mk ((hbel.block _ (Array.getElem?_eq_some_iff.1 P9.out).1).trans P9.out)
                     have P10 := Box.mk ((hbel.block _ (Array.getElem?_eq_some_iff.1 P10.out).1).trans P10.out)
                     have P11 := Box.mk ((hbel.block _ (Array.getElem?_eq_some_iff.1 P11.out).1).trans P11.out)
                     have P12 := Box.mk ((hbel.block _ (Array.getElem?_eq_some_iff.1 P12.out).1).trans P12.out)
                     have R0 := Box.mk ((hbel.block _ (Array.getElem?_eq_some_iff.1 R0.out).1).trans R0.out)
                     have R1 := Box.mk ((hbel.block _ (Array.getElem?_eq_some_iff.1 R1.out).1).trans R1.out)
                     have B := Box.mk (B.out.trans (hbel.mono B.out.size))
                     have P13 := Box.mk p13; have L13 := Box.mk l13; have V13 := Box.mk v13
                     clear p13 l13 v13 hbel
                     go_upto_region 11 with (fail)
                     go_cut [] (fun wx => AftR a w (b1 + 1) (b1 + 2) wx)
                     case first =>
                       obtain ⟨x0, x1, x2, x3, x4⟩ := ecells P13.out
                       have lx : b13 < W13.heap.size := World.block_lt_of_cell? _ _ x0
                       obtain ⟨y0, y1, y2, y3, y4⟩ := ecells P11.out
                       have ly : b11 < W13.heap.size := World.block_lt_of_cell? _ _ y0
                       obtain ⟨z0, z1, z2, z3, z4⟩ := ecells P6.out
                       have lz : b6 < W13.heap.size := World.block_lt_of_cell? _ _ z0
                       obtain ⟨q0, q1, q2, q3, q4⟩ := ecells R0.out
                       obtain ⟨t0, t1, t2, t3, t4⟩ := ecells R1.out
                       have fr0 := zfr R0.out
                       have fr1 := zfr R1.out
                       have lq : b1 + 1 < W13.heap.size := World.block_lt_of_cell? _ _ q0
                       have lt : b1 + 2 < W13.heap.size := World.block_lt_of_cell? _ _ t0
                       have na131 : ¬ b13 = b1 + 1 := by omega
                       have nb131 : ¬ b1 + 1 = b13 := by omega
                       have nc131 : b1 + 1 ≠ b13 := by omega
                       have na132 : ¬ b13 = b1 + 2 := by omega
                       have nb132 : ¬ b1 + 2 = b13 := by omega
                       have nc132 : b1 + 2 ≠ b13 := by omega
                       have na111 : ¬ b11 = b1 + 1 := by omega
                       have nb111 : ¬ b1 + 1 = b11 := by omega
                       have nc111 : b1 + 1 ≠ b11 := by omega
                       have na112 : ¬ b11 = b1 + 2 := by omega
                       have nb112 : ¬ b1 + 2 = b11 := by omega
                       have nc112 : b1 + 2 ≠ b11 := by omega
                       have na61 : ¬ b6 = b1 + 1 := by omega
                       have nb61 : ¬ b1 + 1 = b6 := by omega
                       have nc61 : b1 + 1 ≠ b6 := by omega
                       have na62 : ¬ b6 = b1 + 2 := by omega
                       have nb62 : ¬ b1 + 2 = b6 := by omega
                       have nc62 : b1 + 2 ≠ b6 := by omega
                       go_region_held3 (fun w' => w'.cell? ⟨b13, 0, none⟩ = some (.int .u64 (h13 0 : Nat)) ∧ w'.cell? ⟨b13, 1, none⟩ = some (.int .u64 (h13 1 : Nat)) ∧ w'.cell? ⟨b13, 2, none⟩ = some (.int .u64 (h13 2 : Nat)) ∧ w'.cell? ⟨b13, 3, none⟩ = some (.int .u64 (h13 3 : Nat)) ∧ w'.cell? ⟨b13, 4, none⟩ = some (.int .u64 (h13 4 : Nat)) ∧ w'.cell? ⟨b11, 0, none⟩ = some (.int .u64 (h11 0 : Nat)) ∧ w'.cell? ⟨b11, 1, none⟩ = some (.int .u64 (h11 1 : Nat)) ∧ w'.cell? ⟨b11, 2, none⟩ = some (.int .u64 (h11 2 : Nat)) ∧ w'.cell? ⟨b11, 3, none⟩ = some (.int .u64 (h11 3 : Nat)) ∧ w'.cell? ⟨b11, 4, none⟩ = some (.int .u64 (h11 4 : Nat)) ∧ w'.cell? ⟨b6, 0, none⟩ = some (.int .u64 (h6 0 : Nat)) ∧ w'.cell? ⟨b6, 1, none⟩ = some (.int .u64 (h6 1 : Nat)) ∧ w'.cell? ⟨b6, 2, none⟩ = some (.int .u64 (h6 2 : Nat)) ∧ w'.cell? ⟨b6, 3, none⟩ = some (.int .u64 (h6 3 : Nat)) ∧ w'.cell? ⟨b6, 4, none⟩ = some (.int .u64 (h6 4 : Nat)))
                         (simp [*, World.cell?_setCell_far])
                         ((first
                             | (go_at_call 97; (with_reducible refine (power_lit W13 h13 L13.out 50 50 rfl ?ht ?hX).mono ?_); (case ht => omega); (case hX => go_grown); rintro e w5 ⟨gA, rfl, hl5, ⟨hz5, hb5⟩, hcc5, hff5, hk5⟩; have lx := Nat.lt_of_lt_of_le lx hz5; have ly := Nat.lt_of_lt_of_le ly hz5; have lz := Nat.lt_of_lt_of_le lz hz5; have lq := Nat.lt_of_lt_of_le lq hz5; have lt := Nat.lt_of_lt_of_le lt hz5; have HB5 := Box.mk hb5; have HL5 := Box.mk hl5; clear hb5 hk5 hl5)
                             | (go_at_call 58; (with_reducible refine (mul_lit w5 gA h11 HL5.out.1 L11.out ?hX).mono ?_); (case hX => go_grown); rintro e w7 ⟨h7, rfl, hl7, ⟨hz7, hb7⟩, hcc7, hff7, hk7⟩; have HB7 := Box.mk hb7; have HL7 := Box.mk hl7; clear hb7 hk7 hl7)))
                       all_goals
                         have hvv := pw_mul (pw_pow V13.out HL5.out.2) V11.out HL7.out.2
                         rw [ek_step 200 50] at hvv
                         have HVV := Box.mk hvv
                         have hbel := HB5.out.trans (HB7.out.mono HB5.out.size)
                         have HBEL := Box.mk (B.out.trans (hbel.mono B.out.size))
                         have HR0 := Box.mk ((hbel.block _ (Array.getElem?_eq_some_iff.1 R0.out).1).trans R0.out)
                         have HR1 := Box.mk ((hbel.block _ (Array.getElem?_eq_some_iff.1 R1.out).1).trans R1.out)
                         clear hvv hbel
                         go_wp2_with fail
                         go_meet
                         refine ⟨h7, h6, ?_, ?_, HL7.out.1, HVV.out, L6.out, V6.out, ?_⟩
                         · show (st5 (st5 w7 (b1 + 1) h7) (b1 + 2) h6).heap[b1 + 1]? = _
                           rw [st5_other _ _ _ _ (by omega)]; exact st5_row _ HR0.out
                         · exact st5_row (w := st5 w7 (b1 + 1) h7) _ ((st5_other _ _ _ _ (by omega)).trans HR1.out)
                         · exact st5_below (st5_below HBEL.out (b1 + 1) h7 (by omega)) (b1 + 2) h6 (by omega)
                     case rest =>
                       obtain ⟨h, g, k1, k2, k3, k4, k5, k6, k7⟩ := hcut
                       have K1 := Box.mk k1; have K2 := Box.mk k2
                       have K7 := Box.mk k7; have K4 := Box.mk k4; have K6 := Box.mk k6
                       clear k1 k2 k7 k4 k6
                       go_wp2
                       refine bodyPost_ret (results_two_rows (p := 2) (q := 3) (ty := 56) rfl _ _ (b1 + 1) (b1 + 2) 56 (ecell h) (ecell g) _ rfl K1.out rfl K2.out Tryz.underlying56 rfl (by kernel_rfl) (by kernel_rfl)) rfl ⟨h, g, rfl, k3, K4.out, k5, K6.out, K7.out⟩
end Go.Proofs.YtafhncpaoolljaaGreat.Fe
