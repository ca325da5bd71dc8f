/- The boot laws' arguments: a record; records. The boot laws' arguments: records. Boot: how often the blocks were erased as long as the power stays: plain laws. -/
import Derived.Test.YtgcbmjflodgnbaaGreatDoorM05
import Derived.Test.YtgcbmjflodgnbaaGreatDoorM11
import Derived.Test.YtgcbmjflodgnbaaGreatDoorM08
namespace Go.Proofs.YtgcbmjflodgnbaaGreatDoor
set_option maxRecDepth 100000
open Go Go.RowKit Go.ChangeShapes Go.WideShapes Go.Deep
set_option linter.unusedVariables false

structure BR.Wf (r : BR) : Prop where
  slot : -9223372036854775808 ≤ r.slot ∧ r.slot ≤ 9223372036854775807
  count : -9223372036854775808 ≤ r.count ∧ r.count ≤ 9223372036854775807
  s0 : -9223372036854775808 ≤ r.s0 ∧ r.s0 ≤ 9223372036854775807
  s1 : -9223372036854775808 ≤ r.s1 ∧ r.s1 ≤ 9223372036854775807
section
variable {H : Type} {enc : TypeId × Value → H} {w : World} {base : Nat} {spare : Nat → Bool} {held : Bool}
/-- What a record's cells hold. -/
theorem cells_boot {fuel : Nat} {cs : List Value} {x : DataW H × List MemPlace} (h : DataW.trod enc Tryz.prog w base spare held fuel 24 cs = some x) : ∃ r : BR, cs = (brC r).toList ∧ r.Wf := by
  obtain ⟨xs, n, _, _, hlen, hxl, hf⟩ := DataW.trod_struct Tryz.underlying24 h
  have hC : Tryz.prog.cellsOf 24 = 5 := by kernel_rfl
  have h1 : Tryz.prog.cellsOf 3 = 1 := by kernel_rfl
  have h2 : Tryz.prog.cellsOf 4 = 1 := by kernel_rfl
  have h3 : Tryz.prog.cellsOf 22 = 2 := by kernel_rfl
  rw [hC] at hlen
  match cs, hlen with
  | [c0, c1, c2, c3, c4], _ =>
    have g0 := hf 0 _ rfl
    have g1 := hf 1 _ rfl
    have g2 := hf 2 _ rfl
    have g3 := hf 3 _ rfl
    have hx : xs.length = 4 := hxl
    rw [List.getElem?_eq_getElem (by omega)] at g0 g1 g2 g3
    change DataW.trod _ _ _ _ _ _ n 3 (List.take (Tryz.prog.cellsOf 3) _) = _ at g0
    change DataW.trod _ _ _ _ _ _ n 4 (List.take (Tryz.prog.cellsOf 4) _) = _ at g1
    change DataW.trod _ _ _ _ _ _ n 3 (List.take (Tryz.prog.cellsOf 3) _) = _ at g2
    change DataW.trod _ _ _ _ _ _ n 22 (List.take (Tryz.prog.cellsOf 22) _) = _ at g3
    rw [h1] at g0 g2; rw [h2] at g1; rw [h3] at g3
    obtain ⟨a, ha, _, wa⟩ := DataW.trod_int Tryz.underlying3 g0
    obtain ⟨b, hb, _⟩ := DataW.trod_bool Tryz.underlying4 g1
    obtain ⟨c, hc, _, wc⟩ := DataW.trod_int Tryz.underlying3 g2
    obtain ⟨ys, m, _, _, _, hyl, hy⟩ := DataW.trod_array Tryz.underlying22 g3
    have y0 := hy 0 (by omega)
    have y1 := hy 1 (by omega)
    rw [List.getElem?_eq_getElem (by omega), h1] at y0 y1
    obtain ⟨d, hd, _, wd⟩ := DataW.trod_int Tryz.underlying3 y0
    obtain ⟨e, he, _, we⟩ := DataW.trod_int Tryz.underlying3 y1
    simp at ha hb hc hd he
    refine ⟨⟨a, b, c, d, e⟩, ?_, ⟨bounds_i64 wa, bounds_i64 wc, bounds_i64 wd, bounds_i64 we⟩⟩
    simp only [brC]
    rw [ha, hb, hc, hd, he]
theorem open_boot {r : Reach} {b0 : Nat} {v : Value} {d : DataW H} {p : List MemPlace} (hv : Value.okWide Tryz.prog w r b0 24 v) (h : DataW.Trod enc Tryz.prog w base spare held 24 v d p) : ∃ r : BR, v = brV r ∧ r.Wf := by
  obtain ⟨cs, rfl, hsz⟩ := okWide_struct Tryz.underlying24 hv
  obtain ⟨fuel, hf⟩ := h
  obtain ⟨r, hr, wr⟩ := cells_boot hf
  exact ⟨r, by unfold brV; congr 1; exact Array.toList_inj.1 hr, wr⟩
end
end Go.Proofs.YtgcbmjflodgnbaaGreatDoor
namespace Go.Proofs.YtgcbmjflodgnbaaGreatDoor
set_option maxRecDepth 100000
open Go Go.RowKit Go.ChangeShapes Go.WideShapes Go.Deep
set_option linter.unusedVariables false

/-- A record lies at p. -/
structure BAt (w : World) (p : Addr) (r : BR) : Prop where
  c0 : w.cell? p = some (.int .i64 r.slot)
  c1 : w.cell? (p.add 1) = some (.bool r.up)
  c2 : w.cell? (p.add 2) = some (.int .i64 r.count)
  c3 : w.cell? (p.add 3) = some (.int .i64 r.s0)
  c4 : w.cell? (p.add 4) = some (.int .i64 r.s1)
  wf : r.Wf
theorem BAt.flat {w : World} {p : Addr} {o : BR} (h : BAt w p o) : w.cell? p = some (.int .i64 o.slot) ∧ w.cell? ⟨p.block, p.off + 1, none⟩ = some (.bool o.up) ∧ w.cell? ⟨p.block, p.off + 2, none⟩ = some (.int .i64 o.count) ∧
    w.cell? ⟨p.block, p.off + 3, none⟩ = some (.int .i64 o.s0) ∧ w.cell? ⟨p.block, p.off + 4, none⟩ = some (.int .i64 o.s1) := ⟨h.c0, h.c1, h.c2, h.c3, h.c4⟩
theorem BAt.lt {w : World} {p : Addr} {o : BR} (h : BAt w p o) : p.block < w.heap.size := World.block_lt_of_cell? w p h.c0
theorem BAt.below {B : Nat} {w w' : World} {p : Addr} {o : BR} (h : BAt w p o) (hb : Below B w w') (hp : p.block < B) : BAt w' p o := by
  have hq : ∀ j, (p.add j).block = p.block := by intro j; unfold Addr.add; split <;> rfl
  exact ⟨(hb.cell hp).trans h.c0, (hb.cell (by rw [hq]; exact hp)).trans h.c1, (hb.cell (by rw [hq]; exact hp)).trans h.c2, (hb.cell (by rw [hq]; exact hp)).trans h.c3, (hb.cell (by rw [hq]; exact hp)).trans h.c4, h.wf⟩
/-- The slice sl holds the records of l. -/
def BootsS (w : World) (sl : Value) (l : List BR) : Prop :=
  ∃ (ao : Option Addr) (cap : Nat), sl = .slice ao l.length cap ∧ l.length ≤ maxLen ∧ ∀ i o, l[i]? = some o → ∃ a, ao = some a ∧ BAt w (a.add (i * 5)) o
theorem open_boots {H : Type} {enc : TypeId × Value → H} {w : World} {base : Nat} {spare : Nat → Bool} {held : Bool} {r : Reach} {b0 : Nat} {v : Value} {d : DataW H} {p : List MemPlace}
    (hv : Value.okWide Tryz.prog w r b0 29 v) (h : DataW.Trod enc Tryz.prog w base spare held 29 v d p) : ∃ l, BootsS w v l := by
  obtain ⟨a0, len0, cap0, hv0⟩ := okWide_slice Tryz.underlying29 hv
  have hvc : v.cells.toList = [v] := by rw [hv0]; rfl
  obtain ⟨fuel, hf⟩ := h
  rw [hvc] at hf
  rcases open_slice Tryz.underlying29 hf with ⟨hcs, _⟩ | ⟨a, len, cap, m, n, D, Pl, hcs, hb, hl, hm, hmm, hx, hi⟩
  · exact ⟨[], none, 0, by simpa using hcs, Nat.zero_le _, fun i o h => by simp at h⟩
  · have hC : Tryz.prog.cellsOf 24 = 5 := by kernel_rfl
    have hex : ∀ i, i < len → ∃ o, BAt w (a.add (i * 5)) o := by
      intro i hil
      obtain ⟨cs', hc, ht'⟩ := hi i (by rw [hmm]; split <;> omega)
      obtain ⟨rr, hr, wr⟩ := cells_boot ht'
      obtain ⟨_, hcl, hat⟩ := World.cells?_some hc
      rw [hC] at hat
      have ha : ∀ j, (a.add (i * 5)).add j = a.add (i * 5 + j) := fun j => Go.Deep.add_add a _ _
      have h0 := hat 0 (by omega); have h1 := hat 1 (by omega); have h2 := hat 2 (by omega); have h3 := hat 3 (by omega); have h4 := hat 4 (by omega)
      rw [hr] at h0 h1 h2 h3 h4
      rw [ha] at h0
      exact ⟨rr, by simpa [brC] using h0, by simpa [brC] using h1, by simpa [brC] using h2, by simpa [brC] using h3, by simpa [brC] using h4, wr⟩
    obtain ⟨l, hll, hP⟩ := exists_list (fun i o => BAt w (a.add (i * 5)) o) _ hex
    have hcs' : v = .slice (some a) len cap := by simpa using hcs
    exact ⟨l, some a, cap, by rw [hcs', hll], by omega, fun i o h => ⟨a, rfl, hP i o h⟩⟩
end Go.Proofs.YtgcbmjflodgnbaaGreatDoor
namespace Go.Proofs.YtgcbmjflodgnbaaGreatDoor
set_option maxRecDepth 100000
set_option linter.unusedVariables false
open Go Go.RowKit

theorem bcl_page {s : FS} {F i : Nat} {r : BR} {n : Nat} (h : s.pg F 0 i = pageB r n) : s.bcl F i = false := by
  unfold FS.bcl
  rw [h, ← Bool.not_eq_true, List.all_eq_true]
  intro h'
  have := h' 66 (by unfold pageB bodyB; simp)
  exact absurd this (by decide)
/-- What a put leaves as long as the power stays. -/
theorem bput_still {F : Nat} {s : FS} {t : BS} {r : BR} (h : BInv F s t) (hs : s.Still) (hr : r.May) (k : Nat) (hk : s.bfree F t.block 8 = k) :
    (k < 8 → (s.bput F t r).1.n = s.n ∧ (s.bput F t r).2.1.block = t.block ∧ (s.bput F t r).1.pg F 0 (8 * t.block + k) = pageB r (t.seq + 1) ∧ ∀ j, j < 16 → j ≠ 8 * t.block + k → (s.bput F t r).1.pg F 0 j = s.pg F 0 j) ∧
    (k = 8 → ((Er s.b (512 * (F + (1 - t.block))) 512 → (s.bput F t r).1.n = s.n) ∧ (¬ Er s.b (512 * (F + (1 - t.block))) 512 → (s.bput F t r).1.n = s.bump (F + (1 - t.block)))) ∧ (s.bput F t r).2.1.block = 1 - t.block ∧ (s.bput F t r).1.pg F 0 (8 * (1 - t.block)) = pageB r (t.seq + 1) ∧
      (∀ i, 1 ≤ i → i < 8 → (s.bput F t r).1.bcl F (8 * (1 - t.block) + i) = true) ∧ ∀ j, j < 16 → j / 8 = t.block → (s.bput F t r).1.pg F 0 j = s.pg F 0 j) := by
  have hok := h.by_.ok; have hin := h.by_.inn; have hb := h.by_.b2; have hhi := hin.hi
  obtain ⟨f1, f2, f3⟩ := bfree_spec s F t.block 8
  unfold FS.bput
  rw [if_neg (by rw [(BR.may_iff r).2 hr]; decide), if_neg (by rw [h.live]; decide), if_neg (by rw [h.alive]; decide)]
  by_cases h8 : s.bfree F t.block 8 = 8
  · rw [if_pos h8]
    refine ⟨fun h' => by omega, fun _ => ?_⟩
    have CO := bclean_out (t := t) (b := 1 - t.block) h.alive hok hin (by omega)
    generalize s.bclean F t (1 - t.block) = c at CO ⊢
    obtain ⟨s1, t1, e1⟩ := c
    obtain ⟨ok1, n1, len1, out1, res1, st1⟩ := CO
    dsimp only at ok1 n1 len1 out1 res1 st1 ⊢
    obtain ⟨rfl, st1', m1, m1'⟩ := st1 hs
    rcases res1 with ⟨_, hd1, rfl, he1⟩ | ⟨h, _⟩
    · rw [if_neg (by decide)]
      have KO := bkeep_out (t := t1) (r := r) (n := t1.seq + 1) (p := 0) hd1 ok1 (by rw [n1]; exact hin) (show 1 - t1.block < 2 by omega) (by omega) (he1.sub (by omega) (by omega))
      generalize s1.bkeep F t1 r (t1.seq + 1) (1 - t1.block) 0 = K at KO ⊢
      obtain ⟨s2, t2, e2⟩ := K
      obtain ⟨ok2, n2, len2, out2, res2, st2⟩ := KO
      dsimp only at ok2 n2 len2 out2 res2 st2 ⊢
      obtain ⟨rfl, _⟩ := st2 st1'
      rcases res2 with ⟨_, hd2, rfl, hq⟩ | ⟨h, _⟩
      · refine ⟨⟨fun h => n2.trans (m1 h), fun h => n2.trans (m1' h)⟩, rfl, by have := pg_block s2 F (1 - t1.block) 0; rw [Nat.add_zero] at this; rw [this]; exact hq, fun i h1 h2 => ?_, fun j hj hjb => ?_⟩
        · have hin2 : F + (1 - t1.block) < s2.n.length := by rw [n2, n1]; omega
          rw [bcl_er ok2 hin2 h2]
          intro k h3 h4
          rw [out2 k (by omega)]; exact he1 k (by omega) (by omega)
        · rw [out_pg out2 j (by omega)]; exact out_pg out1 j (by omega)
      · cases h
    · cases h
  · rw [if_neg h8]
    rw [hk] at f1 f2 h8 ⊢
    refine ⟨fun _ => ?_, fun h' => absurd h' h8⟩
    have her : Er s.b (512 * (F + t.block) + 64 * k) 64 := (bcl_er hok (by omega) (by omega)).1 (f2 k (Nat.le_refl _) (by omega))
    have KO := bkeep_out (t := t) (r := r) (n := t.seq + 1) (p := k) h.alive hok hin hb (by omega) her
    generalize s.bkeep F t r (t.seq + 1) t.block k = K at KO ⊢
    obtain ⟨s2, t2, e2⟩ := K
    obtain ⟨ok2, n2, len2, out2, res2, st2⟩ := KO
    dsimp only at ok2 n2 len2 out2 res2 st2 ⊢
    obtain ⟨rfl, _⟩ := st2 hs
    rcases res2 with ⟨_, hd2, rfl, hq⟩ | ⟨h, _⟩
    · exact ⟨n2, rfl, by rw [pg_block]; exact hq, fun j hj hne => out_pg out2 j (by omega)⟩
    · cases h
/-- How a store of which no step was torn stands. -/
structure BCnt (F : Nat) (s : FS) (t : BS) : Prop where
  inv : BInv F s t
  still : s.Still
  bl : t.block = (t.seq - 1) / 8 % 2
  used : ∀ i, i ≤ (t.seq - 1) % 8 → s.bcl F (8 * t.block + i) = false
  free : ∀ i, (t.seq - 1) % 8 < i → i < 8 → s.bcl F (8 * t.block + i) = true
  oth1 : t.seq ≤ 8 → Er s.b (512 * (F + 1)) 512
  oth2 : ¬ t.seq ≤ 8 → ¬ Er s.b (512 * (F + (1 - t.block))) 512
  c0 : s.n[F]? = some (((t.seq - 1) / 8 / 2 : Nat) : Int)
  c1 : s.n[F + 1]? = some ((((t.seq - 1) / 8 - 1) / 2 : Nat) : Int)
theorem BCnt.free_eq {F : Nat} {s : FS} {t : BS} (h : BCnt F s t) : s.bfree F t.block 8 = (t.seq - 1) % 8 + 1 :=
  bfree_eq 8 (by omega) (fun i h1 h2 => h.free i (by omega) h2) (fun i hi => h.used i (by omega))
theorem bcl_same {s s' : FS} {F j : Nat} (h : s'.pg F 0 j = s.pg F 0 j) : s'.bcl F j = s.bcl F j := by unfold FS.bcl; rw [h]
theorem Er.not_of {s : FS} (hok : s.Ok) {F b : Nat} (hF : F + b < s.n.length) (h : s.bcl F (8 * b) = false) : ¬ Er s.b (512 * (F + b)) 512 := fun he => by
  have := (bcl_er hok hF (show 0 < 8 by omega)).2 (he.sub (by omega) (by omega))
  rw [Nat.add_zero, h] at this; cases this
theorem er_pages {s s' : FS} (hok : s.Ok) (hok' : s'.Ok) {F b : Nat} (hF : F + b < s.n.length) (hF' : F + b < s'.n.length) (h : Er s.b (512 * (F + b)) 512) (hp : ∀ i, i < 8 → s'.pg F 0 (8 * b + i) = s.pg F 0 (8 * b + i)) : Er s'.b (512 * (F + b)) 512 := by
  intro k h1 h2
  have h3 := (bcl_er hok' hF' (show (k - 512 * (F + b)) / 64 < 8 by omega)).1 (by
    rw [bcl_same (hp _ (by omega))]
    exact (bcl_er hok hF (by omega)).2 (h.sub (by omega) (by omega)))
  exact h3 k (by omega) (by omega)
/-- One put more. -/
theorem BCnt.put {F : Nat} {s : FS} {t : BS} {r : BR} (h : BCnt F s t) (hr : r.May) (hn : t.seq ≤ 1000) :
    (s.bput F t r).2.2 = 0 ∧ (s.bput F t r).2.1.r = r ∧ (s.bput F t r).2.1.seq = t.seq + 1 ∧ BCnt F (s.bput F t r).1 (s.bput F t r).2.1 := by
  obtain ⟨o1, o2⟩ := bput_out h.inv hr (by omega)
  have S := bput_still h.inv h.still hr _ h.free_eq
  obtain ⟨z, st⟩ := o1 h.still
  have nOk := FS.bput_ok h.inv.by_.ok F t r
  generalize s.bput F t r = R at o2 S z st nOk ⊢
  obtain ⟨s2, t2, e2⟩ := R
  dsimp only at o2 S z st nOk ⊢
  subst z
  rcases o2 with ⟨_, hr2, hseq, inv⟩ | ⟨h, _⟩
  · refine ⟨rfl, hr2, hseq, ?_⟩
    obtain ⟨S1, S2⟩ := S
    have n1 := h.inv.by_.n1
    have hbl := h.bl
    have hlen : F + 2 ≤ s.n.length := by have := h.inv.by_.inn.hi; omega
    have hlen2 : F + 2 ≤ s2.n.length := by rw [nOk.2]; exact hlen
    have hok := h.inv.by_.ok
    have hc0 := h.c0; have hc1 := h.c1
    by_cases h8 : (t.seq - 1) % 8 + 1 < 8
    · obtain ⟨m, hb, hp, ho⟩ := S1 h8
      have e1 : (t2.seq - 1) % 8 = (t.seq - 1) % 8 + 1 := by rw [hseq]; omega
      have e2 : (t2.seq - 1) / 8 = (t.seq - 1) / 8 := by rw [hseq]; omega
      refine ⟨inv, st, by rw [hb, e2]; exact hbl, fun i hi => ?_, fun i h1 h2 => ?_, fun h9 => ?_, fun h9 => ?_, by rw [m, e2]; exact hc0, by rw [m, e2]; exact hc1⟩
      · rw [hb]
        by_cases hik : i = (t.seq - 1) % 8 + 1
        · rw [hik]; exact bcl_page hp
        · rw [bcl_same (ho _ (by omega) (by omega))]; exact h.used i (by omega)
      · rw [hb, bcl_same (ho _ (by omega) (by omega))]; exact h.free i (by omega) h2
      · rw [hseq] at h9
        exact er_pages hok nOk.1 (by omega) (by omega) (h.oth1 (by omega)) fun i hi => ho _ (by omega) (by omega)
      · rw [hb]; rw [hseq] at h9
        intro he
        exact h.oth2 (by omega) (er_pages nOk.1 hok (by omega) (by omega) he fun i hi => (ho _ (by omega) (by omega)).symm)
    · obtain ⟨⟨m, m'⟩, hb, hp, hf, ho⟩ := S2 (by omega)
      have e1 : (t2.seq - 1) % 8 = 0 := by rw [hseq]; omega
      have e2 : (t2.seq - 1) / 8 = (t.seq - 1) / 8 + 1 := by rw [hseq]; omega
      refine ⟨inv, st, by rw [hb, e2]; omega, fun i hi => ?_, fun i h1 h2 => ?_, fun h9 => ?_, fun h9 => ?_, ?_, ?_⟩
      · rw [hb, show i = 0 by omega, Nat.add_zero]; exact bcl_page hp
      · rw [hb]; exact hf i (by omega) h2
      · rw [hseq] at h9; omega
      · rw [hb, show 1 - (1 - t.block) = t.block by omega]
        apply Er.not_of nOk.1 (by omega)
        rw [bcl_same (ho _ (by omega) (by omega))]
        have := h.used 0 (by omega)
        rwa [Nat.add_zero] at this
      · rw [e2]
        by_cases h9 : t.seq ≤ 8
        · have hot := h.oth1 h9
          have h0 : t.block = 0 := by omega
          rw [m (by rw [h0]; exact hot), hc0]; congr 2; omega
        · rw [m' (h.oth2 h9)]
          unfold FS.bump
          rw [List.getElem?_set]
          by_cases hz : t.block = 1
          · rw [hz, if_pos (by omega), if_pos (by omega), List.getD_eq_getElem?_getD, show F + (1 - 1) = F by omega, hc0]
            simp only [Option.getD_some]
            congr 1; rw [show wrap64 ((((t.seq - 1) / 8 / 2 : Nat) : Int) + 1) = (((t.seq - 1) / 8 / 2 : Nat) : Int) + 1 by rw [← IntWalk.i64_left, IntKind.wrap_i64]; omega]; omega
          · rw [if_neg (by omega), hc0]; congr 2; omega
      · rw [e2]
        by_cases h9 : t.seq ≤ 8
        · have hot := h.oth1 h9
          have h0 : t.block = 0 := by omega
          rw [m (by rw [h0]; exact hot), hc1]; congr 2; omega
        · rw [m' (h.oth2 h9)]
          unfold FS.bump
          rw [List.getElem?_set]
          by_cases hz : t.block = 0
          · rw [hz, if_pos (by omega), if_pos (by omega), List.getD_eq_getElem?_getD, show F + (1 - 0) = F + 1 by omega, hc1]
            simp only [Option.getD_some]
            congr 1; rw [show wrap64 (((((t.seq - 1) / 8 - 1) / 2 : Nat) : Int) + 1) = ((((t.seq - 1) / 8 - 1) / 2 : Nat) : Int) + 1 by rw [← IntWalk.i64_left, IntKind.wrap_i64]; omega]; omega
          · rw [if_neg (by omega), hc1]; congr 2; omega
  · cases h
/-- What it says of the counts. -/
theorem BCnt.counts {F : Nat} {s : FS} {t : BS} (h : BCnt F s t) : ∃ a b : Nat, s.n[F]? = some (a : Int) ∧ s.n[F + 1]? = some (b : Int) ∧ a ≤ b + 1 ∧ b ≤ a + 1 ∧ a + b ≤ t.seq / 8 + 1 :=
  ⟨_, _, h.c0, h.c1, by omega, by omega, by omega⟩
/-- .. behind Format on clean blocks. -/
theorem bformat_cnt {F : Nat} {s : FS} {r : BR} (hs : s.Still) (hok : s.Ok) (hin : In s.n.length F 2) (hr : r.May) (he : Er s.b (512 * F) 1024) (h0 : s.n[F]? = some 0) (h1 : s.n[F + 1]? = some 0) :
    ∃ s', s.bformat F r = (s', ⟨r, 1, 0, false⟩, 0) ∧ BCnt F s' ⟨r, 1, 0, false⟩ := by
  obtain ⟨s', e, st, inv, hcl, hp, hn⟩ := bformat_out hs hok hin hr
  have hF : F + 2 ≤ s'.n.length := by have := inv.by_.inn.hi; omega
  refine ⟨s', e, inv, st, by simp, fun i hi => ?_, fun i h1 h2 => ?_, fun _ => ?_, fun h => absurd (by simp) h, by rw [hn he]; simpa using h0, by rw [hn he]; simpa using h1⟩
  · simp only [Nat.sub_self, Nat.zero_mod, Nat.le_zero] at hi; subst hi; exact bcl_page hp
  · simp only [Nat.sub_self, Nat.zero_mod] at h1
    exact (bcl_er (b := 0) inv.by_.ok (by omega) h2).2 ((hcl i h1 (by omega)).sub (by simp) (by simp))
  · intro k h1 h2
    exact hcl ((k - 512 * F) / 64) (by omega) (by omega) k (by omega) (by omega)
end Go.Proofs.YtgcbmjflodgnbaaGreatDoor
