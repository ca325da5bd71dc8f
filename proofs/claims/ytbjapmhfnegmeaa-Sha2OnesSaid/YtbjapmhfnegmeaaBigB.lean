/- The document of sha2: a number of five digits: less, below. -/
import Derived.Test.YtbjapmhfnegmeaaBigA
namespace Go.Proofs.Ytbjapmhfnegmeaa.Big
set_option linter.unusedVariables false
open Go Go.RowKit

set_option maxRecDepth 100000 in
set_option maxHeartbeats 2000000 in
theorem less_any (p q x y : Nat) (w : World) (h : BigAt w p x) (h2 : BigAt w q y) (hne : q ≠ p) (hle : y ≤ x) :
    Calls Try.prog 38 #[.pointer (some ⟨p, 0, none⟩), .pointer (some ⟨q, 0, none⟩)] w fun e w' => e = .returned (.tuple #[]) ∧ BigAt w' p (x - y) ∧ Upd [p] w w' := by
  obtain ⟨G, hG⟩ : ∃ G, G = x - y := ⟨_, rfl⟩
  have HG := Box.mk hG
  have hh : w.heap[p]? = some (.cells (gcell (mx G x 0)) 78 (0, 0)) := by rw [mx_zero]; exact h
  have H := Box.mk hh
  have HY := Box.mk (show w.heap[q]? = some (.cells (gcell (bd y)) 78 (0, 0)) from h2)
  have HL := Box.mk hle
  clear h h2 hh hG hle
  go_enter Try.func38, Try.ntmps38
  go_wp2_with fail
  go_loopw [4, 5] (fun u i wr => ∃ k : Nat, k ≤ 5 ∧ i = .int .i64 k ∧ u = .int .u64 (un x y k : Nat) ∧ wr.heap[p]? = some (.cells (gcell (mx G x k)) 78 (0, 0)) ∧ wr.heap[q]? = some (.cells (gcell (bd y)) 78 (0, 0)) ∧ Upd [p] w wr) (fun _ i _ => 5 - (intOf i).toNat)
  case atStart => exact ⟨0, by omega, rfl, by rw [un_zero]; rfl, H.out, HY.out, Upd.refl _ _⟩
  case round =>
    clear H HY
    obtain ⟨k, hk, rfl, rfl, hrow, hrow2, hu⟩ := hrel
    have HR := Box.mk hrow; have HR2 := Box.mk hrow2; have HU := Box.mk hu
    by_cases hlt : k < 5
    · have hkI : (k : Int) < 5 := by omega
      have hc : wr.cell? ⟨p, k, none⟩ = some (.int .u64 (bd x k : Nat)) := by
        rw [cell_of_row _ _ _ _ _ _ hrow, gcell_get _ _ hlt]; simp [mx]
      have hc2 : wr.cell? ⟨q, k, none⟩ = some (.int .u64 (bd y k : Nat)) := by
        rw [cell_of_row _ _ _ _ _ _ hrow2, gcell_get _ _ hlt]
      have hf : wr.frozen? ⟨p, k, none⟩ = false := frozen_of_row _ _ _ _ _ hrow
      have hd := bd_lt x k; have hd2 := bd_lt y k
      have st := un_step x y k; have dg := un_digit x y k HL.out
      rw [← HG.out] at dg
      have hcl := un_le x y k
      obtain ⟨c, hcc⟩ : ∃ c, c = un x y k := ⟨_, rfl⟩
      rw [← hcc] at st dg hcl ⊢
      obtain ⟨a, haa⟩ : ∃ d, d = bd x k := ⟨_, rfl⟩
      obtain ⟨d, hdd⟩ : ∃ d, d = bd y k := ⟨_, rfl⟩
      rw [← haa] at hc hd st dg
      rw [← hdd] at hc2 hd2 st dg
      obtain ⟨z, hz⟩ : ∃ z, z = a + 4294967296 := ⟨_, rfl⟩
      have hw0 : IntKind.u64.wrap ((a : Int) + 4294967296) = (z : Int) := by rw [IntKind.wrap_u64]; omega
      obtain ⟨b, hb⟩ : ∃ b, b = z - d := ⟨_, rfl⟩
      have hw1 : IntKind.u64.wrap ((z : Int) - (d : Int)) = (b : Int) := by rw [IntKind.wrap_u64]; omega
      obtain ⟨s, hs⟩ : ∃ s, s = b - c := ⟨_, rfl⟩
      have hw2 : IntKind.u64.wrap ((b : Int) - (c : Int)) = (s : Int) := by rw [IntKind.wrap_u64]; omega
      obtain ⟨r, hr⟩ : ∃ r, r = s % 4294967296 := ⟨_, rfl⟩
      obtain ⟨g, hg⟩ : ∃ q, q = s / 4294967296 := ⟨_, rfl⟩
      have hrI : (s : Int) % 4294967296 = (r : Int) := by omega
      have hqI : (s : Int) / 4294967296 = (g : Int) := by omega
      have hg1 : g ≤ 1 := by omega
      have hwq : IntKind.u64.wrap (g : Int) = (g : Int) := by rw [IntKind.wrap_u64]; omega
      obtain ⟨o, ho⟩ : ∃ o, o = 1 - g := ⟨_, rfl⟩
      have hwo : IntKind.u64.wrap (1 - (g : Int)) = (o : Int) := by rw [IntKind.wrap_u64]; omega
      have ST := Box.mk (show un x y (k + 1) = o by rw [st, ho, hg, hs, hb, hz])
      have DG := Box.mk (show bd G k = r by rw [dg, hr, hs, hb, hz])
      clear st dg hcc hdd haa hz hb hs hr hg ho hrow hrow2 hu hcl hd hd2 hlt hg1
      go_wp2
      go_region
      go_wp2
      refine ⟨⟨k + 1, by omega, by go_num, ?_, ?_, ?_, ?_⟩, by simp [intOf]; omega⟩
      · rw [ST.out]
      · rw [heap_drew, heap_setCell_same _ _ _ _ _ _ HR.out, ← DG.out, mx_step _ _ _ (by omega)]
      · rw [heap_drew, heap_setCell_other _ _ _ _ (by simpa using hne)]; exact HR2.out
      · exact (HU.out.setCell (by simp) _).drew
    · obtain rfl : k = 5 := by omega
      rw [mx_all] at hrow
      clear hu hlt hrow2
      go_wp2
      go_end0
      refine ⟨rfl, ?_, HU.out⟩
      unfold BigAt
      rw [← HG.out]; exact hrow

set_option maxRecDepth 100000 in
set_option maxHeartbeats 2000000 in
theorem below_any (p q x y : Nat) (w : World) (h : BigAt w p x) (h2 : BigAt w q y) (hx : x < pw 5) (hy : y < pw 5) :
    Calls Try.prog 37 #[.pointer (some ⟨p, 0, none⟩), .pointer (some ⟨q, 0, none⟩)] w fun e w' => e = .returned (.bool (decide (x < y))) ∧ Upd [] w w' := by
  have H := Box.mk (show w.heap[p]? = some (.cells (gcell (bd x)) 78 (0, 0)) from h)
  have HY := Box.mk (show w.heap[q]? = some (.cells (gcell (bd y)) 78 (0, 0)) from h2)
  have h5 : x / pw (4 + 1) = y / pw (4 + 1) := by rw [Nat.div_eq_of_lt hx, Nat.div_eq_of_lt hy]
  have H5 := Box.mk h5
  obtain ⟨t, ht⟩ : ∃ t, t = decide (x < y) := ⟨_, rfl⟩
  rw [← ht]
  have HT := Box.mk ht
  clear h h2 h5 hx hy ht
  go_enter Try.func37, Try.ntmps37
  go_wp2_with fail
  go_loopw [5] (fun i wr => ∃ k : Nat, k ≤ 5 ∧ i = .int .i64 ((k : Int) - 1) ∧ x / pw k = y / pw k ∧ wr.heap[p]? = some (.cells (gcell (bd x)) 78 (0, 0)) ∧ wr.heap[q]? = some (.cells (gcell (bd y)) 78 (0, 0)) ∧ Upd [] w wr) (fun i _ => (intOf i + 1).toNat)
  case atStart => exact ⟨5, by omega, rfl, H5.out, H.out, HY.out, Upd.refl _ _⟩
  case round =>
    clear H HY H5
    obtain ⟨k, hk, rfl, heq, hrow, hrow2, hu⟩ := hrel
    have HR := Box.mk hrow; have HR2 := Box.mk hrow2; have HU := Box.mk hu; have HE := Box.mk heq
    clear heq
    by_cases hlt : 0 < k
    · obtain ⟨j, rfl⟩ : ∃ j, k = j + 1 := ⟨k - 1, by omega⟩
      have ej : ((j + 1 : Nat) : Int) - 1 = (j : Int) := by omega
      rw [ej]
      have hkI : (0 : Int) ≤ (j : Int) := by omega
      have hkI5 : (j : Int) < 5 := by omega
      have hc : wr.cell? ⟨p, j, none⟩ = some (.int .u64 (bd x j : Nat)) := by
        rw [cell_of_row _ _ _ _ _ _ hrow, gcell_get _ _ (by omega)]
      have hc2 : wr.cell? ⟨q, j, none⟩ = some (.int .u64 (bd y j : Nat)) := by
        rw [cell_of_row _ _ _ _ _ _ hrow2, gcell_get _ _ (by omega)]
      have Hh := Box.mk (below_here x y j HE.out); have Hn := Box.mk (below_next x y j HE.out)
      obtain ⟨a, haa⟩ : ∃ d, d = bd x j := ⟨_, rfl⟩
      obtain ⟨d, hdd⟩ : ∃ d, d = bd y j := ⟨_, rfl⟩
      rw [← haa, ← hdd] at Hh Hn
      rw [← haa] at hc
      rw [← hdd] at hc2
      clear haa hdd hlt hrow hrow2 hu ej
      by_cases hne : a = d
      · subst hne
        have hneB : ((a : Int) != (a : Int)) = false := by simp
        have ha2 := Box.mk (Hn.out rfl)
        clear Hn Hh
        go_wp2
        go_region
        go_wp2
        exact ⟨⟨j, by omega, by go_num, ha2.out, by rw [heap_drew]; exact HR.out, by rw [heap_drew]; exact HR2.out, HU.out.drew⟩, by simp [intOf]⟩
      · have hneI : ((a : Int) = (d : Int)) = False := by simp; omega
        have hneB : ((a : Int) != (d : Int)) = true := by rw [bne_iff_ne]; omega
        have hd : decide (a < d) = t := by
          rw [HT.out]; congr 1; apply propext; rw [Hh.out hne]
        clear Hn Hh HT
        go_wp2
        go_quiet (fail)
        go_wp2
        go_quiet (fail)
        go_wp2
        go_ret
        exact ⟨by rw [← hd]; rfl, ⟨HU.out.os, HU.out.tape, HU.out.output, HU.out.size, HU.out.block⟩⟩
    · obtain rfl : k = 0 := by omega
      have he : t = false := by
        have := HE.out; rw [pw_zero, Nat.div_one, Nat.div_one] at this
        rw [HT.out]; simp; omega
      subst he
      clear hu hlt hrow hrow2 HT
      go_wp2
      go_ret
      exact ⟨rfl, HU.out⟩
end Go.Proofs.Ytbjapmhfnegmeaa.Big
