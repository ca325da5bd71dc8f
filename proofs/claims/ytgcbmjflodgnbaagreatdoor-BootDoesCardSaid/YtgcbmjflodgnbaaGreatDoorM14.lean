/- The boot laws' arguments: a record; records. The boot laws' arguments: records. Boot: how often the blocks were erased as long as the power stays: plain laws. The boot laws' arguments: a script of calls with records. Regions that draw their order and hold operations under guards: as the mixed walk, where each guard is decided on the way. Nothing of the program. Boot: the document's Counts. -/
import Derived.Test.YtgcbmjflodgnbaaGreatDoorM05
import Derived.Test.YtgcbmjflodgnbaaGreatDoorM11
import Derived.Test.YtgcbmjflodgnbaaGreatDoorM08
import Derived.Test.YtgcbmjflodgnbaaGreatDoorM12
import Derived.Test.YtgcbmjflodgnbaaGreatDoorM13
namespace Go.Proofs.YtgcbmjflodgnbaaGreatDoor
set_option maxRecDepth 100000
open Go Go.RowKit Go.ChangeShapes Go.WideShapes Go.Deep
set_option linter.unusedVariables false

structure BR.Wf (r : BR) : Prop where
  slot : -9223372036854775808 ≤ r.slot ∧ r.slot ≤ 9223372036854775807
  count : -9223372036854775808 ≤ r.count ∧ r.count ≤ 9223372036854775807
  s0 : -9223372036854775808 ≤ r.s0 ∧ r.s0 ≤ 9223372036854775807
  s1 : -9223372036854775808 ≤ r.s1 ∧ r.s1 ≤ 9223372036854775807
section
variable {H : Type} {enc : TypeId × Value → H} {w : World} {base : Nat} {spare : Nat → Bool} {held : Bool}
/-- What a record's cells hold. -/
theorem cells_boot {fuel : Nat} {cs : List Value} {x : DataW H × List MemPlace} (h : DataW.trod enc Tryz.prog w base spare held fuel 24 cs = some x) : ∃ r : BR, cs = (brC r).toList ∧ r.Wf := by
  obtain ⟨xs, n, _, _, hlen, hxl, hf⟩ := DataW.trod_struct Tryz.underlying24 h
  have hC : Tryz.prog.cellsOf 24 = 5 := by kernel_rfl
  have h1 : Tryz.prog.cellsOf 3 = 1 := by kernel_rfl
  have h2 : Tryz.prog.cellsOf 4 = 1 := by kernel_rfl
  have h3 : Tryz.prog.cellsOf 22 = 2 := by kernel_rfl
  rw [hC] at hlen
  match cs, hlen with
  | [c0, c1, c2, c3, c4], _ =>
    have g0 := hf 0 _ rfl
    have g1 := hf 1 _ rfl
    have g2 := hf 2 _ rfl
    have g3 := hf 3 _ rfl
    have hx : xs.length = 4 := hxl
    rw [List.getElem?_eq_getElem (by omega)] at g0 g1 g2 g3
    change DataW.trod _ _ _ _ _ _ n 3 (List.take (Tryz.prog.cellsOf 3) _) = _ at g0
    change DataW.trod _ _ _ _ _ _ n 4 (List.take (Tryz.prog.cellsOf 4) _) = _ at g1
    change DataW.trod _ _ _ _ _ _ n 3 (List.take (Tryz.prog.cellsOf 3) _) = _ at g2
    change DataW.trod _ _ _ _ _ _ n 22 (List.take (Tryz.prog.cellsOf 22) _) = _ at g3
    rw [h1] at g0 g2; rw [h2] at g1; rw [h3] at g3
    obtain ⟨a, ha, _, wa⟩ := DataW.trod_int Tryz.underlying3 g0
    obtain ⟨b, hb, _⟩ := DataW.trod_bool Tryz.underlying4 g1
    obtain ⟨c, hc, _, wc⟩ := DataW.trod_int Tryz.underlying3 g2
    obtain ⟨ys, m, _, _, _, hyl, hy⟩ := DataW.trod_array Tryz.underlying22 g3
    have y0 := hy 0 (by omega)
    have y1 := hy 1 (by omega)
    rw [List.getElem?_eq_getElem (by omega), h1] at y0 y1
    obtain ⟨d, hd, _, wd⟩ := DataW.trod_int Tryz.underlying3 y0
    obtain ⟨e, he, _, we⟩ := DataW.trod_int Tryz.underlying3 y1
    simp at ha hb hc hd he
    refine ⟨⟨a, b, c, d, e⟩, ?_, ⟨bounds_i64 wa, bounds_i64 wc, bounds_i64 wd, bounds_i64 we⟩⟩
    simp only [brC]
    rw [ha, hb, hc, hd, he]
theorem open_boot {r : Reach} {b0 : Nat} {v : Value} {d : DataW H} {p : List MemPlace} (hv : Value.okWide Tryz.prog w r b0 24 v) (h : DataW.Trod enc Tryz.prog w base spare held 24 v d p) : ∃ r : BR, v = brV r ∧ r.Wf := by
  obtain ⟨cs, rfl, hsz⟩ := okWide_struct Tryz.underlying24 hv
  obtain ⟨fuel, hf⟩ := h
  obtain ⟨r, hr, wr⟩ := cells_boot hf
  exact ⟨r, by unfold brV; congr 1; exact Array.toList_inj.1 hr, wr⟩
end
end Go.Proofs.YtgcbmjflodgnbaaGreatDoor
namespace Go.Proofs.YtgcbmjflodgnbaaGreatDoor
set_option maxRecDepth 100000
open Go Go.RowKit Go.ChangeShapes Go.WideShapes Go.Deep
set_option linter.unusedVariables false

/-- A record lies at p. -/
structure BAt (w : World) (p : Addr) (r : BR) : Prop where
  c0 : w.cell? p = some (.int .i64 r.slot)
  c1 : w.cell? (p.add 1) = some (.bool r.up)
  c2 : w.cell? (p.add 2) = some (.int .i64 r.count)
  c3 : w.cell? (p.add 3) = some (.int .i64 r.s0)
  c4 : w.cell? (p.add 4) = some (.int .i64 r.s1)
  wf : r.Wf
theorem BAt.flat {w : World} {p : Addr} {o : BR} (h : BAt w p o) : w.cell? p = some (.int .i64 o.slot) ∧ w.cell? ⟨p.block, p.off + 1, none⟩ = some (.bool o.up) ∧ w.cell? ⟨p.block, p.off + 2, none⟩ = some (.int .i64 o.count) ∧
    w.cell? ⟨p.block, p.off + 3, none⟩ = some (.int .i64 o.s0) ∧ w.cell? ⟨p.block, p.off + 4, none⟩ = some (.int .i64 o.s1) := ⟨h.c0, h.c1, h.c2, h.c3, h.c4⟩
theorem BAt.lt {w : World} {p : Addr} {o : BR} (h : BAt w p o) : p.block < w.heap.size := World.block_lt_of_cell? w p h.c0
theorem BAt.below {B : Nat} {w w' : World} {p : Addr} {o : BR} (h : BAt w p o) (hb : Below B w w') (hp : p.block < B) : BAt w' p o := by
  have hq : ∀ j, (p.add j).block = p.block := by intro j; unfold Addr.add; split <;> rfl
  exact ⟨(hb.cell hp).trans h.c0, (hb.cell (by rw [hq]; exact hp)).trans h.c1, (hb.cell (by rw [hq]; exact hp)).trans h.c2, (hb.cell (by rw [hq]; exact hp)).trans h.c3, (hb.cell (by rw [hq]; exact hp)).trans h.c4, h.wf⟩
/-- The slice sl holds the records of l. -/
def BootsS (w : World) (sl : Value) (l : List BR) : Prop :=
  ∃ (ao : Option Addr) (cap : Nat), sl = .slice ao l.length cap ∧ l.length ≤ maxLen ∧ ∀ i o, l[i]? = some o → ∃ a, ao = some a ∧ BAt w (a.add (i * 5)) o
theorem open_boots {H : Type} {enc : TypeId × Value → H} {w : World} {base : Nat} {spare : Nat → Bool} {held : Bool} {r : Reach} {b0 : Nat} {v : Value} {d : DataW H} {p : List MemPlace}
    (hv : Value.okWide Tryz.prog w r b0 29 v) (h : DataW.Trod enc Tryz.prog w base spare held 29 v d p) : ∃ l, BootsS w v l := by
  obtain ⟨a0, len0, cap0, hv0⟩ := okWide_slice Tryz.underlying29 hv
  have hvc : v.cells.toList = [v] := by rw [hv0]; rfl
  obtain ⟨fuel, hf⟩ := h
  rw [hvc] at hf
  rcases open_slice Tryz.underlying29 hf with ⟨hcs, _⟩ | ⟨a, len, cap, m, n, D, Pl, hcs, hb, hl, hm, hmm, hx, hi⟩
  · exact ⟨[], none, 0, by simpa using hcs, Nat.zero_le _, fun i o h => by simp at h⟩
  · have hC : Tryz.prog.cellsOf 24 = 5 := by kernel_rfl
    have hex : ∀ i, i < len → ∃ o, BAt w (a.add (i * 5)) o := by
      intro i hil
      obtain ⟨cs', hc, ht'⟩ := hi i (by rw [hmm]; split <;> omega)
      obtain ⟨rr, hr, wr⟩ := cells_boot ht'
      obtain ⟨_, hcl, hat⟩ := World.cells?_some hc
      rw [hC] at hat
      have ha : ∀ j, (a.add (i * 5)).add j = a.add (i * 5 + j) := fun j => Go.Deep.add_add a _ _
      have h0 := hat 0 (by omega); have h1 := hat 1 (by omega); have h2 := hat 2 (by omega); have h3 := hat 3 (by omega); have h4 := hat 4 (by omega)
      rw [hr] at h0 h1 h2 h3 h4
      rw [ha] at h0
      exact ⟨rr, by simpa [brC] using h0, by simpa [brC] using h1, by simpa [brC] using h2, by simpa [brC] using h3, by simpa [brC] using h4, wr⟩
    obtain ⟨l, hll, hP⟩ := exists_list (fun i o => BAt w (a.add (i * 5)) o) _ hex
    have hcs' : v = .slice (some a) len cap := by simpa using hcs
    exact ⟨l, some a, cap, by rw [hcs', hll], by omega, fun i o h => ⟨a, rfl, hP i o h⟩⟩
end Go.Proofs.YtgcbmjflodgnbaaGreatDoor
namespace Go.Proofs.YtgcbmjflodgnbaaGreatDoor
set_option maxRecDepth 100000
set_option linter.unusedVariables false
open Go Go.RowKit

theorem bcl_page {s : FS} {F i : Nat} {r : BR} {n : Nat} (h : s.pg F 0 i = pageB r n) : s.bcl F i = false := by
  unfold FS.bcl
  rw [h, ← Bool.not_eq_true, List.all_eq_true]
  intro h'
  have := h' 66 (by unfold pageB bodyB; simp)
  exact absurd this (by decide)
/-- What a put leaves as long as the power stays. -/
theorem bput_still {F : Nat} {s : FS} {t : BS} {r : BR} (h : BInv F s t) (hs : s.Still) (hr : r.May) (k : Nat) (hk : s.bfree F t.block 8 = k) :
    (k < 8 → (s.bput F t r).1.n = s.n ∧ (s.bput F t r).2.1.block = t.block ∧ (s.bput F t r).1.pg F 0 (8 * t.block + k) = pageB r (t.seq + 1) ∧ ∀ j, j < 16 → j ≠ 8 * t.block + k → (s.bput F t r).1.pg F 0 j = s.pg F 0 j) ∧
    (k = 8 → ((Er s.b (512 * (F + (1 - t.block))) 512 → (s.bput F t r).1.n = s.n) ∧ (¬ Er s.b (512 * (F + (1 - t.block))) 512 → (s.bput F t r).1.n = s.bump (F + (1 - t.block)))) ∧ (s.bput F t r).2.1.block = 1 - t.block ∧ (s.bput F t r).1.pg F 0 (8 * (1 - t.block)) = pageB r (t.seq + 1) ∧
      (∀ i, 1 ≤ i → i < 8 → (s.bput F t r).1.bcl F (8 * (1 - t.block) + i) = true) ∧ ∀ j, j < 16 → j / 8 = t.block → (s.bput F t r).1.pg F 0 j = s.pg F 0 j) := by
  have hok := h.by_.ok; have hin := h.by_.inn; have hb := h.by_.b2; have hhi := hin.hi
  obtain ⟨f1, f2, f3⟩ := bfree_spec s F t.block 8
  unfold FS.bput
  rw [if_neg (by rw [(BR.may_iff r).2 hr]; decide), if_neg (by rw [h.live]; decide), if_neg (by rw [h.alive]; decide)]
  by_cases h8 : s.bfree F t.block 8 = 8
  · rw [if_pos h8]
    refine ⟨fun h' => by omega, fun _ => ?_⟩
    have CO := bclean_out (t := t) (b := 1 - t.block) h.alive hok hin (by omega)
    generalize s.bclean F t (1 - t.block) = c at CO ⊢
    obtain ⟨s1, t1, e1⟩ := c
    obtain ⟨ok1, n1, len1, out1, res1, st1⟩ := CO
    dsimp only at ok1 n1 len1 out1 res1 st1 ⊢
    obtain ⟨rfl, st1', m1, m1'⟩ := st1 hs
    rcases res1 with ⟨_, hd1, rfl, he1⟩ | ⟨h, _⟩
    · rw [if_neg (by decide)]
      have KO := bkeep_out (t := t1) (r := r) (n := t1.seq + 1) (p := 0) hd1 ok1 (by rw [n1]; exact hin) (show 1 - t1.block < 2 by omega) (by omega) (he1.sub (by omega) (by omega))
      generalize s1.bkeep F t1 r (t1.seq + 1) (1 - t1.block) 0 = K at KO ⊢
      obtain ⟨s2, t2, e2⟩ := K
      obtain ⟨ok2, n2, len2, out2, res2, st2⟩ := KO
      dsimp only at ok2 n2 len2 out2 res2 st2 ⊢
      obtain ⟨rfl, _⟩ := st2 st1'
      rcases res2 with ⟨_, hd2, rfl, hq⟩ | ⟨h, _⟩
      · refine ⟨⟨fun h => n2.trans (m1 h), fun h => n2.trans (m1' h)⟩, rfl, by have := pg_block s2 F (1 - t1.block) 0; rw [Nat.add_zero] at this; rw [this]; exact hq, fun i h1 h2 => ?_, fun j hj hjb => ?_⟩
        · have hin2 : F + (1 - t1.block) < s2.n.length := by rw [n2, n1]; omega
          rw [bcl_er ok2 hin2 h2]
          intro k h3 h4
          rw [out2 k (by omega)]; exact he1 k (by omega) (by omega)
        · rw [out_pg out2 j (by omega)]; exact out_pg out1 j (by omega)
      · cases h
    · cases h
  · rw [if_neg h8]
    rw [hk] at f1 f2 h8 ⊢
    refine ⟨fun _ => ?_, fun h' => absurd h' h8⟩
    have her : Er s.b (512 * (F + t.block) + 64 * k) 64 := (bcl_er hok (by omega) (by omega)).1 (f2 k (Nat.le_refl _) (by omega))
    have KO := bkeep_out (t := t) (r := r) (n := t.seq + 1) (p := k) h.alive hok hin hb (by omega) her
    generalize s.bkeep F t r (t.seq + 1) t.block k = K at KO ⊢
    obtain ⟨s2, t2, e2⟩ := K
    obtain ⟨ok2, n2, len2, out2, res2, st2⟩ := KO
    dsimp only at ok2 n2 len2 out2 res2 st2 ⊢
    obtain ⟨rfl, _⟩ := st2 hs
    rcases res2 with ⟨_, hd2, rfl, hq⟩ | ⟨h, _⟩
    · exact ⟨n2, rfl, by rw [pg_block]; exact hq, fun j hj hne => out_pg out2 j (by omega)⟩
    · cases h
/-- How a store of which no step was torn stands. -/
structure BCnt (F : Nat) (s : FS) (t : BS) : Prop where
  inv : BInv F s t
  still : s.Still
  bl : t.block = (t.seq - 1) / 8 % 2
  used : ∀ i, i ≤ (t.seq - 1) % 8 → s.bcl F (8 * t.block + i) = false
  free : ∀ i, (t.seq - 1) % 8 < i → i < 8 → s.bcl F (8 * t.block + i) = true
  oth1 : t.seq ≤ 8 → Er s.b (512 * (F + 1)) 512
  oth2 : ¬ t.seq ≤ 8 → ¬ Er s.b (512 * (F + (1 - t.block))) 512
  c0 : s.n[F]? = some (((t.seq - 1) / 8 / 2 : Nat) : Int)
  c1 : s.n[F + 1]? = some ((((t.seq - 1) / 8 - 1) / 2 : Nat) : Int)
theorem BCnt.free_eq {F : Nat} {s : FS} {t : BS} (h : BCnt F s t) : s.bfree F t.block 8 = (t.seq - 1) % 8 + 1 :=
  bfree_eq 8 (by omega) (fun i h1 h2 => h.free i (by omega) h2) (fun i hi => h.used i (by omega))
theorem bcl_same {s s' : FS} {F j : Nat} (h : s'.pg F 0 j = s.pg F 0 j) : s'.bcl F j = s.bcl F j := by unfold FS.bcl; rw [h]
theorem Er.not_of {s : FS} (hok : s.Ok) {F b : Nat} (hF : F + b < s.n.length) (h : s.bcl F (8 * b) = false) : ¬ Er s.b (512 * (F + b)) 512 := fun he => by
  have := (bcl_er hok hF (show 0 < 8 by omega)).2 (he.sub (by omega) (by omega))
  rw [Nat.add_zero, h] at this; cases this
theorem er_pages {s s' : FS} (hok : s.Ok) (hok' : s'.Ok) {F b : Nat} (hF : F + b < s.n.length) (hF' : F + b < s'.n.length) (h : Er s.b (512 * (F + b)) 512) (hp : ∀ i, i < 8 → s'.pg F 0 (8 * b + i) = s.pg F 0 (8 * b + i)) : Er s'.b (512 * (F + b)) 512 := by
  intro k h1 h2
  have h3 := (bcl_er hok' hF' (show (k - 512 * (F + b)) / 64 < 8 by omega)).1 (by
    rw [bcl_same (hp _ (by omega))]
    exact (bcl_er hok hF (by omega)).2 (h.sub (by omega) (by omega)))
  exact h3 k (by omega) (by omega)
/-- One put more. -/
theorem BCnt.put {F : Nat} {s : FS} {t : BS} {r : BR} (h : BCnt F s t) (hr : r.May) (hn : t.seq ≤ 1000) :
    (s.bput F t r).2.2 = 0 ∧ (s.bput F t r).2.1.r = r ∧ (s.bput F t r).2.1.seq = t.seq + 1 ∧ BCnt F (s.bput F t r).1 (s.bput F t r).2.1 := by
  obtain ⟨o1, o2⟩ := bput_out h.inv hr (by omega)
  have S := bput_still h.inv h.still hr _ h.free_eq
  obtain ⟨z, st⟩ := o1 h.still
  have nOk := FS.bput_ok h.inv.by_.ok F t r
  generalize s.bput F t r = R at o2 S z st nOk ⊢
  obtain ⟨s2, t2, e2⟩ := R
  dsimp only at o2 S z st nOk ⊢
  subst z
  rcases o2 with ⟨_, hr2, hseq, inv⟩ | ⟨h, _⟩
  · refine ⟨rfl, hr2, hseq, ?_⟩
    obtain ⟨S1, S2⟩ := S
    have n1 := h.inv.by_.n1
    have hbl := h.bl
    have hlen : F + 2 ≤ s.n.length := by have := h.inv.by_.inn.hi; omega
    have hlen2 : F + 2 ≤ s2.n.length := by rw [nOk.2]; exact hlen
    have hok := h.inv.by_.ok
    have hc0 := h.c0; have hc1 := h.c1
    by_cases h8 : (t.seq - 1) % 8 + 1 < 8
    · obtain ⟨m, hb, hp, ho⟩ := S1 h8
      have e1 : (t2.seq - 1) % 8 = (t.seq - 1) % 8 + 1 := by rw [hseq]; omega
      have e2 : (t2.seq - 1) / 8 = (t.seq - 1) / 8 := by rw [hseq]; omega
      refine ⟨inv, st, by rw [hb, e2]; exact hbl, fun i hi => ?_, fun i h1 h2 => ?_, fun h9 => ?_, fun h9 => ?_, by rw [m, e2]; exact hc0, by rw [m, e2]; exact hc1⟩
      · rw [hb]
        by_cases hik : i = (t.seq - 1) % 8 + 1
        · rw [hik]; exact bcl_page hp
        · rw [bcl_same (ho _ (by omega) (by omega))]; exact h.used i (by omega)
      · rw [hb, bcl_same (ho _ (by omega) (by omega))]; exact h.free i (by omega) h2
      · rw [hseq] at h9
        exact er_pages hok nOk.1 (by omega) (by omega) (h.oth1 (by omega)) fun i hi => ho _ (by omega) (by omega)
      · rw [hb]; rw [hseq] at h9
        intro he
        exact h.oth2 (by omega) (er_pages nOk.1 hok (by omega) (by omega) he fun i hi => (ho _ (by omega) (by omega)).symm)
    · obtain ⟨⟨m, m'⟩, hb, hp, hf, ho⟩ := S2 (by omega)
      have e1 : (t2.seq - 1) % 8 = 0 := by rw [hseq]; omega
      have e2 : (t2.seq - 1) / 8 = (t.seq - 1) / 8 + 1 := by rw [hseq]; omega
      refine ⟨inv, st, by rw [hb, e2]; omega, fun i hi => ?_, fun i h1 h2 => ?_, fun h9 => ?_, fun h9 => ?_, ?_, ?_⟩
      · rw [hb, show i = 0 by omega, Nat.add_zero]; exact bcl_page hp
      · rw [hb]; exact hf i (by omega) h2
      · rw [hseq] at h9; omega
      · rw [hb, show 1 - (1 - t.block) = t.block by omega]
        apply Er.not_of nOk.1 (by omega)
        rw [bcl_same (ho _ (by omega) (by omega))]
        have := h.used 0 (by omega)
        rwa [Nat.add_zero] at this
      · rw [e2]
        by_cases h9 : t.seq ≤ 8
        · have hot := h.oth1 h9
          have h0 : t.block = 0 := by omega
          rw [m (by rw [h0]; exact hot), hc0]; congr 2; omega
        · rw [m' (h.oth2 h9)]
          unfold FS.bump
          rw [List.getElem?_set]
          by_cases hz : t.block = 1
          · rw [hz, if_pos (by omega), if_pos (by omega), List.getD_eq_getElem?_getD, show F + (1 - 1) = F by omega, hc0]
            simp only [Option.getD_some]
            congr 1; rw [show wrap64 ((((t.seq - 1) / 8 / 2 : Nat) : Int) + 1) = (((t.seq - 1) / 8 / 2 : Nat) : Int) + 1 by rw [← IntWalk.i64_left, IntKind.wrap_i64]; omega]; omega
          · rw [if_neg (by omega), hc0]; congr 2; omega
      · rw [e2]
        by_cases h9 : t.seq ≤ 8
        · have hot := h.oth1 h9
          have h0 : t.block = 0 := by omega
          rw [m (by rw [h0]; exact hot), hc1]; congr 2; omega
        · rw [m' (h.oth2 h9)]
          unfold FS.bump
          rw [List.getElem?_set]
          by_cases hz : t.block = 0
          · rw [hz, if_pos (by omega), if_pos (by omega), List.getD_eq_getElem?_getD, show F + (1 - 0) = F + 1 by omega, hc1]
            simp only [Option.getD_some]
            congr 1; rw [show wrap64 (((((t.seq - 1) / 8 - 1) / 2 : Nat) : Int) + 1) = ((((t.seq - 1) / 8 - 1) / 2 : Nat) : Int) + 1 by rw [← IntWalk.i64_left, IntKind.wrap_i64]; omega]; omega
          · rw [if_neg (by omega), hc1]; congr 2; omega
  · cases h
/-- What it says of the counts. -/
theorem BCnt.counts {F : Nat} {s : FS} {t : BS} (h : BCnt F s t) : ∃ a b : Nat, s.n[F]? = some (a : Int) ∧ s.n[F + 1]? = some (b : Int) ∧ a ≤ b + 1 ∧ b ≤ a + 1 ∧ a + b ≤ t.seq / 8 + 1 :=
  ⟨_, _, h.c0, h.c1, by omega, by omega, by omega⟩
/-- .. behind Format on clean blocks. -/
theorem bformat_cnt {F : Nat} {s : FS} {r : BR} (hs : s.Still) (hok : s.Ok) (hin : In s.n.length F 2) (hr : r.May) (he : Er s.b (512 * F) 1024) (h0 : s.n[F]? = some 0) (h1 : s.n[F + 1]? = some 0) :
    ∃ s', s.bformat F r = (s', ⟨r, 1, 0, false⟩, 0) ∧ BCnt F s' ⟨r, 1, 0, false⟩ := by
  obtain ⟨s', e, st, inv, hcl, hp, hn⟩ := bformat_out hs hok hin hr
  have hF : F + 2 ≤ s'.n.length := by have := inv.by_.inn.hi; omega
  refine ⟨s', e, inv, st, by simp, fun i hi => ?_, fun i h1 h2 => ?_, fun _ => ?_, fun h => absurd (by simp) h, by rw [hn he]; simpa using h0, by rw [hn he]; simpa using h1⟩
  · simp only [Nat.sub_self, Nat.zero_mod, Nat.le_zero] at hi; subst hi; exact bcl_page hp
  · simp only [Nat.sub_self, Nat.zero_mod] at h1
    exact (bcl_er (b := 0) inv.by_.ok (by omega) h2).2 ((hcl i h1 (by omega)).sub (by simp) (by simp))
  · intro k h1 h2
    exact hcl ((k - 512 * F) / 64) (by omega) (by omega) k (by omega) (by omega)
end Go.Proofs.YtgcbmjflodgnbaaGreatDoor
namespace Go.Proofs.YtgcbmjflodgnbaaGreatDoor
set_option maxRecDepth 100000
open Go Go.RowKit Go.ChangeShapes Go.WideShapes Go.Deep
set_option linter.unusedVariables false

/-- A call of a script. -/
structure OpB where
  k : Int
  n : Int
  a : Int
  m : UInt8
  r : BR
structure OpB.Ok (o : OpB) : Prop where
  k : -9223372036854775808 ≤ o.k ∧ o.k ≤ 9223372036854775807
  n : -9223372036854775808 ≤ o.n ∧ o.n ≤ 9223372036854775807
  a : -9223372036854775808 ≤ o.a ∧ o.a ≤ 9223372036854775807
  r : o.r.Wf
def opC (o : OpB) : Array Value := #[.int .i64 o.k, .int .i64 o.n, .int .i64 o.a, .int .u8 (o.m.toNat : Int), .int .i64 o.r.slot, .bool o.r.up, .int .i64 o.r.count, .int .i64 o.r.s0, .int .i64 o.r.s1]
/-- It lies at p. -/
structure OpAtB (w : World) (p : Addr) (o : OpB) : Prop where
  c : ∀ i v, (opC o)[i]? = some v → w.cell? (p.add i) = some v
  ok : o.Ok
theorem add_zero' (p : Addr) : p.add 0 = p := by
  obtain ⟨b, o, l⟩ := p
  unfold Addr.add
  split <;> simp_all
theorem OpAtB.flat {w : World} {p : Addr} {o : OpB} (h : OpAtB w p o) : w.cell? p = some (.int .i64 o.k) ∧ w.cell? ⟨p.block, p.off + 1, none⟩ = some (.int .i64 o.n) ∧ w.cell? ⟨p.block, p.off + 2, none⟩ = some (.int .i64 o.a) ∧
    w.cell? ⟨p.block, p.off + 3, none⟩ = some (.int .u8 (o.m.toNat : Int)) ∧ w.cell? ⟨p.block, p.off + 4, none⟩ = some (.int .i64 o.r.slot) ∧ w.cell? ⟨p.block, p.off + 5, none⟩ = some (.bool o.r.up) ∧ w.cell? ⟨p.block, p.off + 6, none⟩ = some (.int .i64 o.r.count) ∧
    w.cell? ⟨p.block, p.off + 7, none⟩ = some (.int .i64 o.r.s0) ∧ w.cell? ⟨p.block, p.off + 8, none⟩ = some (.int .i64 o.r.s1) :=
  ⟨by have := h.c 0 _ rfl; rwa [add_zero'] at this, h.c 1 _ rfl, h.c 2 _ rfl, h.c 3 _ rfl, h.c 4 _ rfl, h.c 5 _ rfl, h.c 6 _ rfl, h.c 7 _ rfl, h.c 8 _ rfl⟩
theorem OpAtB.lt {w : World} {p : Addr} {o : OpB} (h : OpAtB w p o) : p.block < w.heap.size := World.block_lt_of_cell? w p h.flat.1
theorem OpAtB.below {B : Nat} {w w' : World} {p : Addr} {o : OpB} (h : OpAtB w p o) (hb : Below B w w') (hp : p.block < B) : OpAtB w' p o := by
  have hq : ∀ j, (p.add j).block = p.block := by intro j; unfold Addr.add; split <;> rfl
  exact ⟨fun i v hi => (hb.cell (by rw [hq]; exact hp)).trans (h.c i v hi), h.ok⟩
/-- The slice sl holds the calls of l. -/
def ScriptB (w : World) (sl : Value) (l : List OpB) : Prop :=
  ∃ (ao : Option Addr) (cap : Nat), sl = .slice ao l.length cap ∧ l.length ≤ maxLen ∧ ∀ i o, l[i]? = some o → ∃ a, ao = some a ∧ OpAtB w (a.add (i * 9)) o
section
variable {H : Type} {enc : TypeId × Value → H} {w : World} {base : Nat} {spare : Nat → Bool} {held : Bool}
theorem cells_opr {fuel : Nat} {cs : List Value} {x : DataW H × List MemPlace} (h : DataW.trod enc Tryz.prog w base spare held fuel 63 cs = some x) : ∃ o : OpB, cs = (opC o).toList ∧ o.Ok := by
  obtain ⟨xs, n, _, _, hlen, hxl, hf⟩ := DataW.trod_struct Tryz.underlying63 h
  have hC : Tryz.prog.cellsOf 63 = 9 := by kernel_rfl
  have h1 : Tryz.prog.cellsOf 3 = 1 := by kernel_rfl
  have h2 : Tryz.prog.cellsOf 5 = 1 := by kernel_rfl
  have h3 : Tryz.prog.cellsOf 24 = 5 := by kernel_rfl
  rw [hC] at hlen
  match cs, hlen with
  | [c0, c1, c2, c3, c4, c5, c6, c7, c8], _ =>
    have g0 := hf 0 _ rfl
    have g1 := hf 1 _ rfl
    have g2 := hf 2 _ rfl
    have g3 := hf 3 _ rfl
    have g4 := hf 4 _ rfl
    have hx : xs.length = 5 := hxl
    rw [List.getElem?_eq_getElem (by omega)] at g0 g1 g2 g3 g4
    change DataW.trod _ _ _ _ _ _ n 3 (List.take (Tryz.prog.cellsOf 3) _) = _ at g0
    change DataW.trod _ _ _ _ _ _ n 3 (List.take (Tryz.prog.cellsOf 3) _) = _ at g1
    change DataW.trod _ _ _ _ _ _ n 3 (List.take (Tryz.prog.cellsOf 3) _) = _ at g2
    change DataW.trod _ _ _ _ _ _ n 5 (List.take (Tryz.prog.cellsOf 5) _) = _ at g3
    change DataW.trod _ _ _ _ _ _ n 24 (List.take (Tryz.prog.cellsOf 24) _) = _ at g4
    rw [h1] at g0 g1 g2; rw [h2] at g3; rw [h3] at g4
    obtain ⟨a, ha, _, wa⟩ := DataW.trod_int Tryz.underlying3 g0
    obtain ⟨b, hb, _, wb⟩ := DataW.trod_int Tryz.underlying3 g1
    obtain ⟨c, hc, _, wc⟩ := DataW.trod_int Tryz.underlying3 g2
    obtain ⟨m, hm, _, wm⟩ := DataW.trod_int Tryz.underlying5 g3
    obtain ⟨r, hr, wr⟩ := cells_boot g4
    have bm := bounds_u8 wm
    have em : m = ((UInt8.ofNat m.toNat).toNat : Int) := by rw [UInt8.toNat_ofNat']; omega
    simp at ha hb hc hm
    simp [brC] at hr
    obtain ⟨e4, e5, e6, e7, e8⟩ := hr
    refine ⟨⟨a, b, c, UInt8.ofNat m.toNat, r⟩, ?_, ⟨bounds_i64 wa, bounds_i64 wb, bounds_i64 wc, wr⟩⟩
    simp only [opC]
    rw [ha, hb, hc, hm, e4, e5, e6, e7, e8, ← em]
theorem open_opr {r : Reach} {b0 : Nat} {v : Value} {d : DataW H} {p : List MemPlace}
    (hv : Value.okWide Tryz.prog w r b0 61 v) (h : DataW.Trod enc Tryz.prog w base spare held 61 v d p) : ∃ l, ScriptB w v l := by
  obtain ⟨a0, len0, cap0, hv0⟩ := okWide_slice Tryz.underlying61 hv
  have hvc : v.cells.toList = [v] := by rw [hv0]; rfl
  obtain ⟨fuel, hf⟩ := h
  rw [hvc] at hf
  rcases open_slice Tryz.underlying61 hf with ⟨hcs, _⟩ | ⟨a, len, cap, m, n, D, Pl, hcs, hb, hl, hm, hmm, hx, hi⟩
  · exact ⟨[], none, 0, by simpa using hcs, Nat.zero_le _, fun i o h => by simp at h⟩
  · have hC : Tryz.prog.cellsOf 63 = 9 := by kernel_rfl
    have hex : ∀ i, i < len → ∃ o, OpAtB w (a.add (i * 9)) o := by
      intro i hil
      obtain ⟨cs', hc, ht'⟩ := hi i (by rw [hmm]; split <;> omega)
      obtain ⟨o, hr, wr⟩ := cells_opr ht'
      obtain ⟨_, hcl, hat⟩ := World.cells?_some hc
      rw [hC] at hat
      refine ⟨o, fun j v hj => ?_, wr⟩
      have hj9 : j < 9 := (Array.getElem?_eq_some_iff.1 hj).1
      have := hat j hj9
      rw [hr, Array.getElem?_toList, hj] at this
      exact this
    obtain ⟨l, hll, hP⟩ := exists_list (fun i o => OpAtB w (a.add (i * 9)) o) _ hex
    have hcs' : v = .slice (some a) len cap := by simpa using hcs
    exact ⟨l, some a, cap, by rw [hcs', hll], by omega, fun i o h => ⟨a, rfl, hP i o h⟩⟩
end
end Go.Proofs.YtgcbmjflodgnbaaGreatDoor
namespace Go.Proofs.YtgcbmjflodgnbaaGreatDoor
set_option maxRecDepth 100000
set_option linter.unusedVariables false
open Go Go.RowKit
namespace Gd
section
variable {P : Program} {W : World} {S : List Nat} {ops : Array Oper}

/-- Is the operation wanted, by what has come out so far? -/
def want (ops : Array Oper) (o : Oper) (a : Act) : Bool := Region.wanted o (yielded ops a.tmps)
def yieldsW (P : Program) (W : World) (S : List Nat) (ops : Array Oper) (o : Oper) (a : Act) (v : Value) : Prop := (want ops o a = true ∧ yieldsG P W S o a v) ∨ (want ops o a = false ∧ v = undef)
def makesW (P : Program) (W : World) (S : List Nat) (ops : Array Oper) (o : Oper) (a : Act) (X : Obj) : Prop := want ops o a = true ∧ makesG P W S o a X
def stepsW (P : Program) (S : List Nat) (ops : Array Oper) (o : Oper) (a : Act) (w : World) (R : Value → World → Prop) : Prop := (want ops o a = true ∧ steps P S o a w R) ∨ (want ops o a = false ∧ R undef w)
theorem stepsW.mono {o : Oper} {a : Act} {w : World} {R R' : Value → World → Prop} (h : stepsW P S ops o a w R) (hr : ∀ v w', R v w' → R' v w') : stepsW P S ops o a w R' :=
  h.imp (fun h => ⟨h.1, h.2.mono hr⟩) (fun h => ⟨h.1, hr _ _ h.2⟩)
theorem stepsW.some {o : Oper} {a : Act} {w : World} {R : Value → World → Prop} (h : stepsW P S ops o a w R) : ∃ v w', R v w' :=
  h.elim (fun h => h.2.some) (fun h => ⟨_, _, h.2⟩)
theorem want_i {i j : Oper} (h : Apt ops j i) (a : Act) (u : Value) : want ops i (a.put j.dst u) = want ops i a := wanted_put i a j.dst u (Oper.apart_spec h.ap).1
theorem want_j {i j : Oper} (h : Apt ops j i) (a : Act) (u : Value) : want ops j (a.put i.dst u) = want ops j a := wanted_put j a i.dst u (Oper.apart_spec h.ap).2.2
theorem y_i {i j : Oper} (h : Apt ops j i) (a : Act) (u v : Value) : yieldsW P W S ops i (a.put j.dst u) v = yieldsW P W S ops i a v := by unfold yieldsW yieldsG; rw [want_i h, h.exec_i]
theorem y_j {i j : Oper} (h : Apt ops j i) (a : Act) (u v : Value) : yieldsW P W S ops j (a.put i.dst u) v = yieldsW P W S ops j a v := by unfold yieldsW yieldsG; rw [want_j h, h.exec_j]
theorem m_i {i j : Oper} (h : Apt ops j i) (a : Act) (u : Value) (X : Obj) : makesW P W S ops i (a.put j.dst u) X = makesW P W S ops i a X := by unfold makesW makesG; rw [want_i h, h.exec_i]
theorem m_j {i j : Oper} (h : Apt ops j i) (a : Act) (u : Value) (X : Obj) : makesW P W S ops j (a.put i.dst u) X = makesW P W S ops j a X := by unfold makesW makesG; rw [want_j h, h.exec_j]
theorem s_i {i j : Oper} (h : Apt ops j i) (a : Act) (u : Value) (w : World) (R : Value → World → Prop) : stepsW P S ops i (a.put j.dst u) w R = stepsW P S ops i a w R := by unfold stepsW steps; rw [want_i h, h.exec_i]
theorem s_j {i j : Oper} (h : Apt ops j i) (a : Act) (u : Value) (w : World) (R : Value → World → Prop) : stepsW P S ops j (a.put i.dst u) w R = stepsW P S ops j a w R := by unfold stepsW steps; rw [want_j h, h.exec_j]
def wpW (P : Program) (W : World) (S : List Nat) (ops : Array Oper) (T : (World → Prop) → List Nat → Act → Prop) : List (Oper × Kd) → (World → Prop) → List Nat → Act → Prop
  | [], F, N, a => T F N a
  | (o, .flo) :: L, F, N, a => ∃ v, yieldsW P W S ops o a v ∧ wpW P W S ops T L F N (a.put o.dst v)
  | (o, .new X) :: L, F, N, a => makesW P W S ops o a X ∧ ∀ b, W.heap.size ≤ b → b ∉ N → wpW P W S ops T L (fun w => F w ∧ w.heap[b]? = some X) (b :: N) (a.put o.dst (.pointer (some ⟨b, 0, none⟩)))
  | (o, .cha) :: L, F, N, a => ∀ w, GrS S W w → F w → stepsW P S ops o a w (fun v w' => GrD S N w w' ∧ ∃ F' N', Stb F' ∧ F' w' ∧ (∀ b ∈ N', w.heap.size ≤ b ∧ b < w'.heap.size) ∧ wpW P W S ops T L F' (N' ++ N) (a.put o.dst v))

theorem wpW_sub {P : Program} {W : World} {S : List Nat} {ops : Array Oper} {T : (World → Prop) → List Nat → Act → Prop} (hT : ∀ F N N' a, (∀ b, b ∈ N → b ∈ N') → T F N a → T F N' a) : ∀ (L : List (Oper × Kd)) (F : World → Prop) (N N' : List Nat) (a : Act), (∀ b, b ∈ N → b ∈ N') → wpW P W S ops T L F N a → wpW P W S ops T L F N' a
  | [], F, N, N', a, h, hg => hT F N N' a h hg
  | (o, .flo) :: L, F, N, N', a, h, ⟨v, hv, hg⟩ => ⟨v, hv, wpW_sub hT L F N N' _ h hg⟩
  | (o, .new X) :: L, F, N, N', a, h, ⟨hm, hg⟩ => ⟨hm, fun b hb hn => wpW_sub hT L _ (b :: N) (b :: N') _ (fun c hc => by
      rcases List.mem_cons.1 hc with h' | h'
      · exact h' ▸ List.mem_cons_self
      · exact List.mem_cons_of_mem _ (h c h')) (hg b hb (fun h' => hn (h b h')))⟩
  | (o, .cha) :: L, F, N, N', a, h, hg => fun w hw hF => by
    refine (hg w hw hF).mono fun v w' ⟨hgr, F', M, hs, hF', hl, h'⟩ => ⟨hgr.sub h, F', M, hs, hF', hl, wpW_sub hT L F' (M ++ N) (M ++ N') _ (fun b hb => ?_) h'⟩
    rcases List.mem_append.1 hb with h' | h'
    · exact List.mem_append_left _ h'
    · exact List.mem_append_right _ (h b h')
variable {T : (World → Prop) → List Nat → Act → Prop} {oi : Oper}

theorem ex_flo {B : List (Oper × Kd)} : ∀ (A : List (Oper × Kd)), (∀ p ∈ A, Apt ops p.1 oi) → ∀ (F : World → Prop) (N : List Nat) (a : Act) (w : World), Known W S F N w → wpW P W S ops T (A ++ (oi, .flo) :: B) F N a → ∃ v, yieldsW P W S ops oi a v
  | [], _, _, _, _, _, _, ⟨v, h, _⟩ => ⟨v, h⟩
  | (oj, .flo) :: A, hA, F, N, a, w, hk, ⟨u, _, h⟩ => by
    obtain ⟨v, hv⟩ := ex_flo A (fun p hp => hA p (List.mem_cons_of_mem _ hp)) F N _ w hk h
    exact ⟨v, by rwa [y_i (hA _ List.mem_cons_self)] at hv⟩
  | (oj, .new X) :: A, hA, F, N, a, w, hk, ⟨_, h⟩ => by
    obtain ⟨v, hv⟩ := ex_flo A (fun p hp => hA p (List.mem_cons_of_mem _ hp)) _ _ _ (w.alloc X) (hk.new X) (h w.heap.size hk.gr.size hk.fresh)
    exact ⟨v, by rwa [y_i (hA _ List.mem_cons_self)] at hv⟩
  | (oj, .cha) :: A, hA, F, N, a, w, hk, h => by
    obtain ⟨u, w', hg, F', M, hs', hF', hl, h'⟩ := (h w hk.gr hk.fa).some
    obtain ⟨v, hv⟩ := ex_flo A (fun p hp => hA p (List.mem_cons_of_mem _ hp)) F' _ _ w' (hk.call hg hs' hF' hl) h'
    exact ⟨v, by rwa [y_i (hA _ List.mem_cons_self)] at hv⟩

theorem rem_flo {v : Value} {B : List (Oper × Kd)} : ∀ (A : List (Oper × Kd)), (∀ p ∈ A, Apt ops p.1 oi) → ∀ (F : World → Prop) (N : List Nat) (a : Act), yieldsW P W S ops oi a v → wpW P W S ops T (A ++ (oi, .flo) :: B) F N a → wpW P W S ops T (A ++ B) F N (a.put oi.dst v)
  | [], _, _, _, a, hv, ⟨v', h', hg⟩ => by
    have e : v = v' := by
      rcases hv with ⟨g1, hv⟩ | ⟨g1, hv⟩ <;> rcases h' with ⟨g2, h'⟩ | ⟨g2, h'⟩ <;> rw [g1] at g2
      · rcases hv W (GrS.refl _ _) with h1 | ⟨h1, e1⟩ <;> rcases h' W (GrS.refl _ _) with h2 | ⟨h2, e2⟩ <;> rw [h1] at h2
        · injection h2 with h3; injection h3
        · injection h2 with h3; cases h3
        · injection h2 with h3; cases h3
        · rw [e1, e2]
      · cases g2
      · cases g2
      · rw [hv, h']
    subst e
    exact hg
  | (oj, .flo) :: A, hA, F, N, a, hv, ⟨u, hu, h⟩ => by
    have hj := hA _ List.mem_cons_self
    refine ⟨u, by rw [y_j hj]; exact hu, ?_⟩
    rw [← hj.comm]
    exact rem_flo A (fun p hp => hA p (List.mem_cons_of_mem _ hp)) F N _ (by rw [y_i hj]; exact hv) h
  | (oj, .new X) :: A, hA, F, N, a, hv, ⟨hm, h⟩ => by
    have hj := hA _ List.mem_cons_self
    refine ⟨by rw [m_j hj]; exact hm, fun b hb hn => ?_⟩
    rw [← hj.comm]
    exact rem_flo A (fun p hp => hA p (List.mem_cons_of_mem _ hp)) _ _ _ (by rw [y_i hj]; exact hv) (h b hb hn)
  | (oj, .cha) :: A, hA, F, N, a, hv, h => by
    have hj := hA _ List.mem_cons_self
    intro w hw hF
    have h0 := h w hw hF
    rw [← s_j hj a v] at h0
    refine h0.mono fun u w' ⟨hg, F', M, hs', hF', hl, h'⟩ => ⟨hg, F', M, hs', hF', hl, ?_⟩
    rw [← hj.comm]
    exact rem_flo A (fun p hp => hA p (List.mem_cons_of_mem _ hp)) F' _ _ (by rw [y_i hj]; exact hv) h'

theorem ex_new {X : Obj} {B : List (Oper × Kd)} : ∀ (A : List (Oper × Kd)), (∀ p ∈ A, Apt ops p.1 oi) → ∀ (F : World → Prop) (N : List Nat) (a : Act) (w : World), Known W S F N w → wpW P W S ops T (A ++ (oi, .new X) :: B) F N a → makesW P W S ops oi a X
  | [], _, _, _, _, _, _, ⟨h, _⟩ => h
  | (oj, .flo) :: A, hA, F, N, a, w, hk, ⟨u, _, h⟩ => by
    have hv := ex_new A (fun p hp => hA p (List.mem_cons_of_mem _ hp)) F N _ w hk h
    rwa [m_i (hA _ List.mem_cons_self)] at hv
  | (oj, .new Y) :: A, hA, F, N, a, w, hk, ⟨_, h⟩ => by
    have hv := ex_new A (fun p hp => hA p (List.mem_cons_of_mem _ hp)) _ _ _ (w.alloc Y) (hk.new Y) (h w.heap.size hk.gr.size hk.fresh)
    rwa [m_i (hA _ List.mem_cons_self)] at hv
  | (oj, .cha) :: A, hA, F, N, a, w, hk, h => by
    obtain ⟨u, w', hg, F', M, hs', hF', hl, h'⟩ := (h w hk.gr hk.fa).some
    have hv := ex_new A (fun p hp => hA p (List.mem_cons_of_mem _ hp)) F' _ _ w' (hk.call hg hs' hF' hl) h'
    rwa [m_i (hA _ List.mem_cons_self)] at hv

theorem rem_new (hT : ∀ F N N' a, (∀ b, b ∈ N → b ∈ N') → T F N a → T F N' a) (hS : ∀ k ∈ S, k < W.heap.size) {X : Obj} {b : Nat} (hb : W.heap.size ≤ b) {B : List (Oper × Kd)} : ∀ (A : List (Oper × Kd)), (∀ p ∈ A, Apt ops p.1 oi) → ∀ (F : World → Prop) (N : List Nat) (a : Act), b ∉ N → wpW P W S ops T (A ++ (oi, .new X) :: B) F N a →
    wpW P W S ops T (A ++ B) (fun w => F w ∧ w.heap[b]? = some X) (b :: N) (a.put oi.dst (.pointer (some ⟨b, 0, none⟩)))
  | [], _, _, _, a, hn, ⟨_, h⟩ => h b hb hn
  | (oj, .flo) :: A, hA, F, N, a, hn, ⟨u, hu, h⟩ => by
    have hj := hA _ List.mem_cons_self
    refine ⟨u, by rw [y_j hj]; exact hu, ?_⟩
    rw [← hj.comm]
    exact rem_new hT hS hb A (fun p hp => hA p (List.mem_cons_of_mem _ hp)) F N _ hn h
  | (oj, .new Y) :: A, hA, F, N, a, hn, ⟨hm, h⟩ => by
    have hj := hA _ List.mem_cons_self
    refine ⟨by rw [m_j hj]; exact hm, fun b' hb' hn' => ?_⟩
    rw [← hj.comm, and_swap3]
    have hne : b' ≠ b := fun h => hn' (h ▸ List.mem_cons_self)
    refine wpW_sub hT _ _ (b :: b' :: N) (b' :: b :: N) _ (fun c hc => ?_) (rem_new hT hS hb A (fun p hp => hA p (List.mem_cons_of_mem _ hp)) _ (b' :: N) _ (fun h => ?_) (h b' hb' (fun h => hn' (List.mem_cons_of_mem _ h))))
    · simp only [List.mem_cons] at hc ⊢; rcases hc with h | h | h <;> simp [h]
    · rcases List.mem_cons.1 h with h' | h'
      · exact hne h'.symm
      · exact hn h'
  | (oj, .cha) :: A, hA, F, N, a, hn, h => by
    have hj := hA _ List.mem_cons_self
    intro w hw hF
    have h0 := h w hw hF.1
    rw [← s_j hj a (.pointer (some ⟨b, 0, none⟩))] at h0
    refine h0.mono fun u w' ⟨hg, F', M, hs', hF', hl, h'⟩ =>
      ⟨hg.sub (fun _ h => List.mem_cons_of_mem _ h), fun x => F' x ∧ x.heap[b]? = some X, M, hs'.new b X, ⟨hF', hg.at (fun h => Nat.lt_irrefl _ (Nat.lt_of_lt_of_le (hS b h) hb)) hn hF.2⟩, hl, ?_⟩
    rw [← hj.comm]
    have hlt := Gr.blt hF.2
    refine wpW_sub hT _ _ (b :: (M ++ N)) (M ++ b :: N) _ (fun c hc => ?_) (rem_new hT hS hb A (fun p hp => hA p (List.mem_cons_of_mem _ hp)) F' (M ++ N) _ (fun h => ?_) h')
    · simp only [List.mem_cons, List.mem_append] at hc ⊢; rcases hc with h | h | h <;> simp [h]
    · rcases List.mem_append.1 h with h' | h'
      · have := hl b h'; omega
      · exact hn h'

theorem rem_cha {B : List (Oper × Kd)} : ∀ (A : List (Oper × Kd)), (∀ p ∈ A, Apt ops p.1 oi ∧ p.2.isFlo = true) → ∀ (F : World → Prop) (N : List Nat) (a : Act), wpW P W S ops T (A ++ (oi, .cha) :: B) F N a →
    ∀ w, GrS S W w → F w → stepsW P S ops oi a w (fun v w' => GrD S N w w' ∧ ∃ F' M, Stb F' ∧ F' w' ∧ (∀ b ∈ M, w.heap.size ≤ b ∧ b < w'.heap.size) ∧ wpW P W S ops T (A ++ B) F' (M ++ N) (a.put oi.dst v))
  | [], _, _, _, _, h, w, hw, hF => h w hw hF
  | (oj, .flo) :: A, hA, F, N, a, ⟨u, hu, h⟩, w, hw, hF => by
    have hj := (hA _ List.mem_cons_self).1
    have h0 := rem_cha A (fun p hp => hA p (List.mem_cons_of_mem _ hp)) F N _ h w hw hF
    rw [s_i hj a u] at h0
    refine h0.mono fun v w' ⟨hg, F', M, hs', hF', hl, h'⟩ => ⟨hg, F', M, hs', hF', hl, u, by rw [y_j hj]; exact hu, ?_⟩
    rw [← hj.comm]
    exact h'
  | (oj, .new X) :: A, hA, _, _, _, _, _, _, _ => by have := (hA _ List.mem_cons_self).2; cases this
  | (oj, .cha) :: A, hA, _, _, _, _, _, _, _ => by have := (hA _ List.mem_cons_self).2; cases this

/-- For each operation which ones it waits for, as bits. -/
def maskOf (R : Array Nat) (o : Oper) : Nat := o.after.toList.foldl (fun m e => if Region.binds .any e = true then (m ||| 2 ^ e.on) ||| R.getD e.on 0 else m) 0
def masks : List Oper → Array Nat → Array Nat
  | [], R => R
  | o :: l, R => masks l (R.push (maskOf R o))
theorem fold_bits (R : Array Nat) (j : Nat) : ∀ (l : List Edge) (m : Nat), (l.foldl (fun m e => if Region.binds .any e = true then (m ||| 2 ^ e.on) ||| R.getD e.on 0 else m) m).testBit j = true →
    m.testBit j = true ∨ ∃ e ∈ l, Region.binds .any e = true ∧ (e.on = j ∨ (R.getD e.on 0).testBit j = true)
  | [], m, h => .inl h
  | e :: l, m, h => by
    rw [List.foldl_cons] at h
    rcases fold_bits R j l _ h with h | ⟨e', he', hb, h⟩
    · by_cases hb : Region.binds .any e = true
      · rw [if_pos hb, Nat.testBit_or, Nat.testBit_or, Bool.or_eq_true, Bool.or_eq_true, Nat.testBit_two_pow, decide_eq_true_iff] at h
        rcases h with (h | h) | h
        · exact .inl h
        · exact .inr ⟨e, List.mem_cons_self, hb, .inl h⟩
        · exact .inr ⟨e, List.mem_cons_self, hb, .inr h⟩
      · rw [if_neg hb] at h; exact .inl h
    · exact .inr ⟨e', List.mem_cons_of_mem _ he', hb, h⟩
def Wt (ops : Array Oper) (i j : Nat) : Prop := ∃ f, waits ops f i j = true
theorem mask_wt {ops : Array Oper} {R : Array Nat} (hR : ∀ i j, (R.getD i 0).testBit j = true → Wt ops i j) {k : Nat} {o : Oper} (ho : ops[k]? = some o) {j : Nat} (h : (maskOf R o).testBit j = true) : Wt ops k j := by
  rcases fold_bits R j _ 0 h with h | ⟨e, he, hb, h⟩
  · simp at h
  · have hmem : e ∈ o.after := by simpa using he
    rcases h with h | h
    · refine ⟨1, ?_⟩
      simp only [waits, ho, Option.map_some, Option.getD_some, Bool.or_eq_true]
      rw [← Array.any_toList, ← Array.any_toList]
      exact .inl (List.any_eq_true.2 ⟨e, he, by simp [hb, h]⟩)
    · obtain ⟨f, hf⟩ := hR _ _ h
      refine ⟨f + 1, ?_⟩
      simp only [waits, ho, Option.map_some, Option.getD_some, Bool.or_eq_true]
      rw [← Array.any_toList, ← Array.any_toList]
      exact .inr (List.any_eq_true.2 ⟨e, he, by simp [hb, hf]⟩)
theorem masks_wt {ops : Array Oper} : ∀ (l : List Oper) (R : Array Nat), (∀ i j, (R.getD i 0).testBit j = true → Wt ops i j) → (∀ k, ops[R.size + k]? = l[k]?) → ∀ i j, ((masks l R).getD i 0).testBit j = true → Wt ops i j
  | [], R, hR, _ => hR
  | o :: l, R, hR, hl => masks_wt l (R.push (maskOf R o)) (fun i j h => by
      have ho : ops[R.size]? = some o := by have := hl 0; simpa using this
      by_cases hi : i = R.size
      · subst hi
        have e : (R.push (maskOf R o)).getD R.size 0 = maskOf R o := by simp
        rw [e] at h
        exact mask_wt hR ho h
      · have e : (R.push (maskOf R o)).getD i 0 = R.getD i 0 := by
          simp only [Array.getD_eq_getD_getElem?, Array.getElem?_push, if_neg hi]
        rw [e] at h
        exact hR i j h) (fun k => by
      have := hl (k + 1)
      rw [Array.size_push, Nat.add_assoc, Nat.add_comm 1 k]
      simpa using this)
theorem wt_of {ops : Array Oper} {i j : Nat} (h : ((masks ops.toList #[]).getD i 0).testBit j = true) : Wt ops i j :=
  masks_wt ops.toList #[] (fun i j h => by simp at h) (fun k => by simp) i j h
def mixR (ops : Array Oper) (R : Array Nat) (n : Nat) (kd : Nat → Kd) : Bool :=
  Region.noSelect ops && decide (n < ops.size) && ((List.range ops.size).all fun t => decide (t < n) || (List.range n).all fun i => (R.getD t 0).testBit i) &&
  (List.range n).all fun i => match ops[i]? with
    | none => false
    | some oi => oi.after.all (fun e => !Region.binds .any e || decide (e.on < i)) &&
      (List.range i).all fun j => match ops[j]? with
        | none => false
        | some oj => ((R.getD i 0).testBit j || oj.apart ops oi) && (!(kd i).isCha || (kd j).isFlo || (R.getD i 0).testBit j)
def mixW (ops : Array Oper) (n : Nat) (kd : Nat → Kd) : Bool := mixR ops (masks ops.toList #[]) n kd

end

section
variable {P : Program} {ops : Array Oper} {W : World} {S : List Nat} {Q : Exit → Act → World → Prop} {T : (World → Prop) → List Nat → Act → Prop}

theorem anyG (hS : ∀ k ∈ S, k < W.heap.size) {n g : Nat} {kd : Nat → Kd} (hB : mixW ops n kd = true) (hg : n + g = ops.size) (pr : Nat → Oper × Kd) (hpr : ∀ i o, ops[i]? = some o → pr i = (o, kd i))
    (hTN : ∀ F N N' a, (∀ b, b ∈ N → b ∈ N') → T F N a → T F N' a)
    (hT : ∀ F N a w, T F N a → GrS S W w → F w → wpAny P .any ops Q g (canonL n g) a w) :
    ∀ (m : Nat) (L : List Nat) (listed : Array Bool) (a : Act) (w : World) (F : World → Prop) (N : List Nat), L.length = m → HeadInv .any ops n listed → (∀ i, i ∈ L ↔ i < n ∧ listed.getD i true = false) → L.Pairwise (· < ·) →
      Known W S F N w → wpW P W S ops T (L.map pr) F N a → wpAny P .any ops Q (m + g) listed a w := by
  simp only [mixW, mixR, Bool.and_eq_true, decide_eq_true_eq] at hB
  obtain ⟨⟨⟨hsel, hn⟩, htail⟩, hall⟩ := hB
  have hget : ∀ i, i < n → ∃ oi, ops[i]? = some oi ∧ (∀ e ∈ oi.after, Region.binds .any e = true → e.on < i) ∧
      ∀ j, j < i → ∀ oj, ops[j]? = some oj → (((masks ops.toList #[]).getD i 0).testBit j || oj.apart ops oi) = true ∧ (!(kd i).isCha || (kd j).isFlo || ((masks ops.toList #[]).getD i 0).testBit j) = true := by
    intro i hi
    have h1 := List.all_eq_true.1 hall i (List.mem_range.2 hi)
    cases ho : ops[i]? with
    | none => simp [ho] at h1
    | some oi =>
      simp only [ho, Bool.and_eq_true] at h1
      obtain ⟨h3, h4⟩ := h1
      refine ⟨oi, rfl, fun e he hb => ?_, fun j hj oj hoj => ?_⟩
      · have := Array.all_eq_true_iff_forall_mem.1 h3 e he
        simp only [hb, Bool.not_true, Bool.false_or, decide_eq_true_eq] at this
        exact this
      · have h5 := List.all_eq_true.1 h4 j (List.mem_range.2 hj)
        simp only [hoj, Bool.and_eq_true] at h5
        exact h5
  intro m
  induction m with
  | zero =>
    intro L listed a w F N hm inv hL _ hkn h
    have hnil : L = [] := List.length_eq_zero_iff.1 hm
    subst hnil
    rw [Nat.zero_add]
    have : listed = canonL n (ops.size - n) := by
      refine Array.ext (by rw [inv.size]; simp [canonL]; omega) fun i h1 h2 => ?_
      rw [inv.size] at h1
      by_cases hi : i < n
      · have h3 : ¬ listed.getD i true = false := fun h => by have := (hL i).2 ⟨hi, h⟩; cases this
        have h4 := getD_tf h3 (by rw [inv.size]; exact h1)
        simp [inv.size, h1] at h4
        simp [canonL, hi, h4]
      · have h4 := inv.tail i (by omega) h1
        simp [inv.size, h1] at h4
        simp [canonL, Array.getElem_append, h4]; omega
    rw [this, show ops.size - n = g by omega]
    exact hT F N a w h hkn.gr hkn.fa
  | succ m ih =>
    intro L listed a w F N hm inv hL hp hkn h
    have hready : ∃ i0, i0 ∈ Region.ready .any ops listed ∧ i0 ∈ L := by
      cases L with
      | nil => simp at hm
      | cons i0 L =>
        have h0 := (hL i0).1 List.mem_cons_self
        obtain ⟨oi, ho, ha, _⟩ := hget i0 h0.1
        refine ⟨i0, mem_ready.2 ⟨h0.2, oi, ho, fun e he hb => ?_⟩, List.mem_cons_self⟩
        have hlt := ha e he hb
        refine getD_tf (fun hf => ?_) (by rw [inv.size]; omega)
        have hmem := (hL e.on).2 ⟨by omega, hf⟩
        rcases List.mem_cons.1 hmem with h' | h'
        · omega
        · have := (List.pairwise_cons.1 hp).1 _ h'; omega
    obtain ⟨i0, hr0, hm0⟩ := hready
    rw [show m + 1 + g = (m + g) + 1 by omega]
    refine ⟨fun h => (by rw [h] at hr0; cases hr0), fun i hi => ?_⟩
    have hin : i < n := by
      rcases Nat.lt_or_ge i n with h' | h'
      · exact h'
      · obtain ⟨_, ot, hot, hdt⟩ := mem_ready.1 hi
        have h1 := List.all_eq_true.1 htail i (List.mem_range.2 (Array.getElem?_eq_some_iff.1 hot).1)
        simp only [Bool.or_eq_true, decide_eq_true_eq] at h1
        have h2 := List.all_eq_true.1 (h1.resolve_left (by omega)) i0 (List.mem_range.2 ((hL i0).1 hm0).1)
        obtain ⟨f3, h2⟩ := wt_of h2
        have h3 := waits_listed inv.closed f3 i ot hot hdt h2
        rw [getD_both ((hL i0).1 hm0).2] at h3
        cases h3
    obtain ⟨hiun, oi', hoi', hdone⟩ := mem_ready.1 hi
    obtain ⟨oi, hoi, _, hrel⟩ := hget i hin
    obtain rfl : oi' = oi := Option.some.inj (hoi'.symm.trans hoi)
    have hiL : i ∈ L := (hL i).2 ⟨hin, hiun⟩
    obtain ⟨A, B, rfl⟩ := List.append_of_mem hiL
    have hpair := List.pairwise_append.1 hp
    have hAp : ∀ p ∈ A.map pr, Apt ops p.1 oi' ∧ ((kd i).isCha = true → p.2.isFlo = true) := by
      intro p hpm
      obtain ⟨j, hj, rfl⟩ := List.mem_map.1 hpm
      have hji : j < i := hpair.2.2 j hj i List.mem_cons_self
      have hjL := (hL j).1 (List.mem_append_left _ hj)
      obtain ⟨oj, hoj, _⟩ := hget j hjL.1
      have hno : ((masks ops.toList #[]).getD i 0).testBit j = false := by
        cases hq : ((masks ops.toList #[]).getD i 0).testBit j with
        | false => rfl
        | true =>
          obtain ⟨f3, hq⟩ := wt_of hq
          have := waits_listed inv.closed f3 i oi' hoi hdone hq
          rw [getD_both hjL.2] at this
          cases this
      have h5 := hrel j hji oj hoj
      rw [hno, Bool.false_or, Bool.or_false] at h5
      rw [hpr j oj hoj]
      refine ⟨⟨h5.1, fun cs b => Region.noSelect_spec hsel j oj cs b hoj, fun cs b => Region.noSelect_spec hsel i oi' cs b hoi⟩, fun hc => ?_⟩
      have := h5.2
      rw [hc] at this
      simpa using this
    have hL' : ∀ k, k ∈ A ++ B ↔ k < n ∧ (listed.setIfInBounds i true).getD k true = false := by
      intro k
      by_cases hki : k = i
      · subst hki
        have hlt : k < listed.size := by rw [inv.size]; omega
        have hnA : k ∉ A := fun hk => by have := hpair.2.2 k hk k List.mem_cons_self; omega
        have hnB : k ∉ B := fun hk => by have := (List.pairwise_cons.1 hpair.2.1).1 k hk; omega
        simp [hnA, hnB, hlt]
      · rw [getD_set_ne true (Ne.symm hki), ← hL k]
        simp [hki]
    have hp' : (A ++ B).Pairwise (· < ·) := List.pairwise_append.2 ⟨hpair.1, (List.pairwise_cons.1 hpair.2.1).2, fun x hx y hy => hpair.2.2 x hx y (List.mem_cons_of_mem _ hy)⟩
    have hm' : (A ++ B).length = m := by simp only [List.length_append, List.length_cons] at hm ⊢; omega
    have inv' := inv.set hi hin
    have go : ∀ (a' : Act) (w' : World) (F' : World → Prop) (N' : List Nat), Known W S F' N' w' → wpW P W S ops T (A.map pr ++ B.map pr) F' N' a' → wpAny P .any ops Q (m + g) (listed.setIfInBounds i true) a' w' :=
      fun a' w' F' N' h1 h4 => ih (A ++ B) _ a' w' F' N' hm' inv' hL' hp' h1 (by rw [List.map_append]; exact h4)
    rw [List.map_append, List.map_cons, hpr i oi' hoi] at h
    have put_ok : ∀ v w', (want ops oi' a = true → oi'.wp P a w (wpAny P .any ops Q (m + g) (listed.setIfInBounds i true)) Q) → (want ops oi' a = false → wpAny P .any ops Q (m + g) (listed.setIfInBounds i true) (a.put oi'.dst v) w') → v = undef → w' = w → wpOp P ops Q i (wpAny P .any ops Q (m + g) (listed.setIfInBounds i true)) a w := by
      intro v w' h1 h2 hv hw'
      subst hv; subst hw'
      unfold wpOp
      simp only [hoi]
      cases hq : Region.wanted oi' (yielded ops a.tmps) with
      | true => rw [if_pos rfl]; exact .inl (h1 hq)
      | false => rw [if_neg (by decide)]; exact h2 hq
    refine put_ok undef w ?_ ?_ rfl rfl
    · intro hq
      cases hk : kd i with
      | flo =>
        rw [hk] at h
        obtain ⟨v, hv⟩ := ex_flo (A.map pr) (fun p hp => (hAp p hp).1) F N a w hkn h
        have h2 := rem_flo (A.map pr) (fun p hp => (hAp p hp).1) F N a hv h
        unfold Oper.wp
        rcases hv with ⟨_, hv⟩ | ⟨e, _⟩
        · rcases hv w hkn.gr with he | ⟨he, rfl⟩
          · rw [he]; exact go _ w F N hkn h2
          · rw [he]; exact go _ w F N hkn h2
        · rw [hq] at e; cases e
      | new X =>
        rw [hk] at h
        have hv := ex_new (A.map pr) (fun p hp => (hAp p hp).1) F N a w hkn h
        have h2 := rem_new hTN hS hkn.gr.size (A.map pr) (fun p hp => (hAp p hp).1) F N a hkn.fresh h
        unfold Oper.wp
        rw [hv.2 w hkn.gr]
        exact go _ (w.alloc X) _ _ (hkn.new X) h2
      | cha =>
        rw [hk] at h hAp
        rcases rem_cha (A.map pr) (fun p hp => ⟨(hAp p hp).1, (hAp p hp).2 rfl⟩) F N a h w hkn.gr hkn.fa with ⟨_, hs⟩ | ⟨e, _⟩
        · exact hs.wp fun v w' ⟨hgr, F', M, hs', hF', hl, h'⟩ => go _ w' F' _ (hkn.call hgr hs' hF' hl) h'
        · rw [hq] at e; cases e
    · intro hq
      cases hk : kd i with
      | flo =>
        rw [hk] at h
        obtain ⟨v, hv⟩ := ex_flo (A.map pr) (fun p hp => (hAp p hp).1) F N a w hkn h
        have h2 := rem_flo (A.map pr) (fun p hp => (hAp p hp).1) F N a hv h
        rcases hv with ⟨e, _⟩ | ⟨_, rfl⟩
        · rw [hq] at e; cases e
        · exact go _ w F N hkn h2
      | new X =>
        rw [hk] at h
        have hv := ex_new (A.map pr) (fun p hp => (hAp p hp).1) F N a w hkn h
        rw [hv.1] at hq; cases hq
      | cha =>
        rw [hk] at h hAp
        rcases rem_cha (A.map pr) (fun p hp => ⟨(hAp p hp).1, (hAp p hp).2 rfl⟩) F N a h w hkn.gr hkn.fa with ⟨e, _⟩ | ⟨_, hgr, F', M, hs', hF', hl, h'⟩
        · rw [hq] at e; cases e
        · exact go _ w F' _ (hkn.call hgr hs' hF' hl) h'

theorem region_of_tail {id : Nat} {a : Act} {w : World} {F0 : World → Prop} (hF0s : Stb F0) (hF0 : F0 w.drew) (hS : ∀ k ∈ S, k < w.heap.size) {l : List Oper} {T : (World → Prop) → Act → Prop} (n : Nat) (ks : List Kd) (hm : P.follows .mixedOrders = true) (hB : mixW l.toArray n (fun i => ks.getD i .flo) = true) (hk : ks.length = n)
    (hT : ∀ F a w', T F a → GrS S w.drew w' → F w' → wpAny P .any l.toArray Q (l.length - n) (canonL n (l.length - n)) a w')
    (h : wpW P w.drew S l.toArray (fun F _ a' => T F a') ((l.take n).zip ks) F0 [] a) : (Code.region id l.toArray true).wp P Q a w := by
  have hn : n < l.length := by
    simp only [mixW, mixR, Bool.and_eq_true, decide_eq_true_eq] at hB
    simpa using hB.1.1.2
  refine wp_region_any hm ?_
  have inv0 : HeadInv .any l.toArray n (Array.replicate l.toArray.size false) :=
    ⟨by simp, fun j oj _ hl => (by rw [getD_replicate_false] at hl; cases hl), fun t _ ht => getD_in (by simpa using ht) (getD_replicate_false _ _)⟩
  have hzip : (l.take n).zip ks = (List.range n).map (fun i => (l.getD i default, ks.getD i .flo)) := by
    refine List.ext_getElem (by simp [hk]; omega) fun i h1 h2 => ?_
    have hi : i < n := by simpa using h2
    simp [List.getD, List.getElem?_eq_getElem (show i < l.length by omega), List.getElem?_eq_getElem (show i < ks.length by omega)]
  rw [hzip] at h
  have := anyG (P := P) (Q := Q) (W := w.drew) (S := S) hS (g := l.length - n) hB (by simp; omega) (fun i => (l.getD i default, ks.getD i .flo))
    (fun i o ho => by simp only [List.getElem?_toArray] at ho; simp [List.getD, ho])
    (fun F N N' a' _ h => h)
    (fun F N a' w' hT' hw hF => hT F a' w' hT' hw hF)
    n (List.range n) (Array.replicate l.toArray.size false) a w.drew F0 [] (by simp) inv0
    (fun i => by
      rw [List.mem_range]
      exact ⟨fun hi => ⟨hi, getD_in (by simp; omega) (getD_replicate_false _ _)⟩, fun h => h.1⟩)
    List.pairwise_lt_range ⟨hF0s, GrS.refl _ _, hF0, (fun b hb => by cases hb), fun b hb => by cases hb⟩ h
  rw [show n + (l.length - n) = l.toArray.size by simp; omega] at this
  exact this
/-- **ONE WALK IN THE ORDER OF THE TEXT**: n operations, each of its kind; then the tail, which keeps its order. -/
theorem wp_region_mix {id : Nat} {a : Act} {w : World} {l : List Oper} (n : Nat) (ks : List Kd) (hm : P.follows .mixedOrders = true) (hB : (mixW l.toArray n (fun i => ks.getD i .flo) && Region.seqB .any l.toArray (l.length - n) n (canonL n (l.length - n))) = true) (hk : ks.length = n)
    (h : wpW P w.drew [] l.toArray (fun F _ a' => ∀ w', Gr w.drew w' → F w' → wpList P l.toArray Q (l.drop n) a' w') ((l.take n).zip ks) (fun _ => True) [] a) : (Code.region id l.toArray true).wp P Q a w := by
  rw [Bool.and_eq_true] at hB
  refine region_of_tail (S := []) (F0 := fun _ => True) Stb.tt trivial (fun _ h => by cases h) (T := fun F a' => ∀ w', Gr w.drew w' → F w' → wpList P l.toArray Q (l.drop n) a' w') n ks hm hB.1 hk (fun F a' w' hT hw hF => ?_) h
  have hdl : (l.drop n).length = l.length - n := by simp
  have := wpAny_of_seq (md := .any) (Q' := Q) (l.drop n) n (canonL n (l.length - n)) a' w' (fun j => by simp [List.getElem?_drop]) (by rw [hdl]; exact hB.2) (hT w' hw.toGr hF)
  rwa [hdl] at this
/-- .. where a store into a block of S may stand among the operations. -/
theorem wp_region_mixS {id : Nat} {a : Act} {w : World} {l : List Oper} (S : List Nat) (F0 : World → Prop) (hF0s : Stb F0) (hF0 : F0 w.drew) (hS : ∀ k ∈ S, k < w.heap.size) (n : Nat) (ks : List Kd) (hm : P.follows .mixedOrders = true) (hB : (mixW l.toArray n (fun i => ks.getD i .flo) && Region.seqB .any l.toArray (l.length - n) n (canonL n (l.length - n))) = true) (hk : ks.length = n)
    (h : wpW P w.drew S l.toArray (fun F _ a' => ∀ w', GrS S w.drew w' → F w' → wpList P l.toArray Q (l.drop n) a' w') ((l.take n).zip ks) F0 [] a) : (Code.region id l.toArray true).wp P Q a w := by
  rw [Bool.and_eq_true] at hB
  refine region_of_tail (S := S) (F0 := F0) hF0s hF0 hS (T := fun F a' => ∀ w', GrS S w.drew w' → F w' → wpList P l.toArray Q (l.drop n) a' w') n ks hm hB.1 hk (fun F a' w' hT hw hF => ?_) h
  have hdl : (l.drop n).length = l.length - n := by simp
  have := wpAny_of_seq (md := .any) (Q' := Q) (l.drop n) n (canonL n (l.length - n)) a' w' (fun j => by simp [List.getElem?_drop]) (by rw [hdl]; exact hB.2) (hT w' hw hF)
  rwa [hdl] at this
end
section
variable {P : Program} {W : World} {S : List Nat} {ops : Array Oper} {T : (World → Prop) → List Nat → Act → Prop} {L : List (Oper × Kd)} {F : World → Prop} {N : List Nat} {a : Act} {o : Oper} {k : Kd}
/-- A step that is wanted: as in the walk without guards, with what follows as its tail. -/
theorem yes (hw : want ops o a = true) (h : wpG P W S (fun F N a => wpW P W S ops T L F N a) [(o, k)] F N a) : wpW P W S ops T ((o, k) :: L) F N a := by
  cases k with
  | flo =>
    obtain ⟨v, h1, h2⟩ := h
    exact ⟨v, .inl ⟨hw, h1⟩, h2⟩
  | new X => exact ⟨⟨hw, h.1⟩, h.2⟩
  | cha => exact fun w hg hF => .inl ⟨hw, h w hg hF⟩
/-- Steps that are not. -/
theorem no (hw : want ops o a = false) (h : wpW P W S ops T L F N (a.put o.dst undef)) : wpW P W S ops T ((o, .flo) :: L) F N a := ⟨undef, .inr ⟨hw, rfl⟩, h⟩
theorem noC (hw : want ops o a = false) (hF : Stb F) (h : wpW P W S ops T L F N (a.put o.dst undef)) : wpW P W S ops T ((o, .cha) :: L) F N a :=
  fun w _ hFw => .inr ⟨hw, (GrS.refl S w).d, F, [], hF, hFw, (fun _ hb => by cases hb), h⟩
theorem nil (h : T F N a) : wpW P W S ops T [] F N a := h
end
end Gd
end Go.Proofs.YtgcbmjflodgnbaaGreatDoor
namespace Go.Proofs.YtgcbmjflodgnbaaGreatDoor
set_option maxRecDepth 100000
set_option linter.unusedVariables false
open Go Go.RowKit

set_option maxHeartbeats 4000000 in
theorem rcounts_any (s : ByteArray) (hsz : s.size = 64) (w : World) :
    Calls Tryz.prog 52 #[.string s] w fun e w' => e = .returned (.tuple #[brV (readB s.data.toList), .int .i64 (numB s.data.toList : Int), .bool (cntB s.data.toList)]) ∧ Below w.heap.size w w' := by
  obtain ⟨V, hV⟩ : ∃ V, V = cntB s.data.toList := ⟨_, rfl⟩
  rw [← hV]
  have hl : s.data.toList.length = 64 := by rw [← hsz]; simp
  have hat : ∀ i (h : i < 64), s.data.toList[i]? = some (s[i]'(by omega)) := fun i h => by
    rw [List.getElem?_eq_getElem (by omega)]; rfl
  have G1 := Box.mk (fun w => rcget_any (s.extract 1 7) (by rw [ByteArray.size_extract]; omega) w)
  have G2 := Box.mk (fun w => rcget_any (s.extract 10 13) (by rw [ByteArray.size_extract]; omega) w)
  have G3 := Box.mk (fun w => rcget_any (s.extract 13 16) (by rw [ByteArray.size_extract]; omega) w)
  obtain ⟨N, hN⟩ : ∃ N, N = num (s.extract 1 7) := ⟨_, rfl⟩
  obtain ⟨X, hX⟩ : ∃ X, X = num (s.extract 10 13) := ⟨_, rfl⟩
  obtain ⟨Y, hY⟩ : ∃ Y, Y = num (s.extract 13 16) := ⟨_, rfl⟩
  rw [← hN] at G1; rw [← hX] at G2; rw [← hY] at G3
  obtain ⟨r, hr⟩ : ∃ r, r = readB s.data.toList := ⟨_, rfl⟩
  have E7 : Box (wrap64 (((s[7]'(by omega)).toNat : Nat) : Int) = r.slot) := ⟨by
    rw [hr]; unfold readB; dsimp only
    rw [List.getD_eq_getElem?_getD, hat 7 (by omega), Option.getD_some, IntWalk.wrap64_in] <;> (have := (s[7]'(by omega)).toNat_lt; omega)⟩
  have E9 : Box (wrap64 (((s[9]'(by omega)).toNat : Nat) : Int) = r.count) := ⟨by
    rw [hr]; unfold readB; dsimp only
    rw [List.getD_eq_getElem?_getD, hat 9 (by omega), Option.getD_some, IntWalk.wrap64_in] <;> (have := (s[9]'(by omega)).toNat_lt; omega)⟩
  have E8 : Box (((((s[8]'(by omega)).toNat : Nat) : Int) == 1) = r.up) := ⟨by
    rw [hr]; unfold readB; dsimp only
    rw [List.getD_eq_getElem?_getD, hat 8 (by omega), Option.getD_some, Bool.eq_iff_iff, beq_iff_eq, beq_iff_eq, ← UInt8.toNat_inj]
    show _ ↔ _ = 1
    omega⟩
  have hcut : ∀ i j, i ≤ j → j ≤ 64 → num (s.extract i j) = leNat ((s.data.toList.drop i).take (j - i)) := fun i j _ _ => by
    unfold num; rw [ba_cut]
  have EX : Box ((X : Int) = r.s0) := ⟨by rw [hr, hX, hcut 10 13 (by omega) (by omega)]; rfl⟩
  have EY : Box ((Y : Int) = r.s1) := ⟨by rw [hr, hY, hcut 13 16 (by omega) (by omega)]; rfl⟩
  have HNUM : Box (numB s.data.toList = N) := ⟨by rw [hN, hcut 1 7 (by omega) (by omega)]; rfl⟩
  have HNUM48 : Box (N < 281474976710656) := ⟨by
    rw [← HNUM.out]
    have h1 := leNat_lt ((s.data.toList.drop 1).take 6)
    rw [show ((s.data.toList.drop 1).take 6).length = 6 by rw [List.length_take, List.length_drop]; omega] at h1
    exact h1⟩
  have HREC : Box (readB s.data.toList = r) := ⟨hr.symm⟩
  clear hN hX hY hr hcut
  rw [HREC.out, HNUM.out]
  go_enter Tryz.func52, Tryz.ntmps52
  go_wp2_with fail
  refine (G1.out _).mono ?_
  rintro e w1 ⟨rfl, rfl⟩
  go_wp2_with fail
  refine (G2.out _).mono ?_
  rintro e w1 ⟨rfl, rfl⟩
  go_wp2_with fail
  refine (G3.out _).mono ?_
  rintro e w1 ⟨rfl, rfl⟩
  go_wp2_with fail
  go_region
  rw [E7.out, E8.out, E9.out, EX.out, EY.out]
  obtain ⟨b0, hb0⟩ : ∃ b0, b0 = w.heap.size := ⟨_, rfl⟩
  have hbe : Below b0 w (((w.alloc (.cells #[.int .i64 0, .bool false, .int .i64 0, .int .i64 0, .int .i64 0] 24)).alloc (.cells #[.int .i64 r.slot, .bool r.up, .int .i64 r.count, .int .i64 r.s0, .int .i64 r.s1] 24)).drew) := by
    rw [hb0]; exact (((Below.refl _ w).alloc (Nat.le_refl _) _).alloc (by simp) _).drew
  have hr0 : (((w.alloc (.cells #[.int .i64 0, .bool false, .int .i64 0, .int .i64 0, .int .i64 0] 24)).alloc (.cells #[.int .i64 r.slot, .bool r.up, .int .i64 r.count, .int .i64 r.s0, .int .i64 r.s1] 24)).drew).heap[b0]? = some (.cells (brC BR.zero) 24 (0, 0)) := by
    show ((w.alloc _).alloc _).heap[b0]? = _
    rw [hb0, heap_alloc_old _ _ (by simp), heap_alloc_new]; rfl
  have hr1 : (((w.alloc (.cells #[.int .i64 0, .bool false, .int .i64 0, .int .i64 0, .int .i64 0] 24)).alloc (.cells #[.int .i64 r.slot, .bool r.up, .int .i64 r.count, .int .i64 r.s0, .int .i64 r.s1] 24)).drew).heap[b0 + 1]? = some (.cells (brC r) 24 (0, 0)) := by
    show ((w.alloc _).alloc _).heap[b0 + 1]? = _
    have := heap_alloc_new (w.alloc (.cells #[.int .i64 0, .bool false, .int .i64 0, .int .i64 0, .int .i64 0] 24)) (.cells #[.int .i64 r.slot, .bool r.up, .int .i64 r.count, .int .i64 r.s0, .int .i64 r.s1] 24)
    rw [hb0]; simpa [brC] using this
  rw [← hb0]

  generalize ((w.alloc (.cells #[.int .i64 0, .bool false, .int .i64 0, .int .i64 0, .int .i64 0] 24)).alloc (.cells #[.int .i64 r.slot, .bool r.up, .int .i64 r.count, .int .i64 r.s0, .int .i64 r.s1] 24)).drew = W1 at hbe hr0 hr1 ⊢
  have Q0 := Box.mk hr0; have Q1 := Box.mk hr1
  have BEL := Box.mk (show Below b0 w W1.drew from hbe.drew)
  have HB0 := Box.mk hb0
  clear hbe hr0 hr1 hb0 E7 E8 E9 EX EY G1 G2 G3
  go_upto_region 5 with (fail)
  by_cases hn1 : N = 0
  · have hn1I : decide ((0 : Int) < (N : Int)) = false := by rw [decide_eq_false_iff_not]; omega
    have HV : Box (V = false) := ⟨by rw [hV, ← Bool.not_eq_true, cnt_iff]; intro h; have := h.1; rw [HNUM.out] at this; omega⟩
    clear hV
    refine Gd.wp_region_mixS [b0] (fun x => True ∧ x.heap[b0]? = some (.cells (brC BR.zero) 24 (0, 0))) (Stb.row _ _) (⟨trivial, Q0.out⟩) (fun k hk => by simp at hk; subst hk; exact Gr.blt Q0.out) 17 [.flo, .flo, .flo, .flo, .flo, .flo, .cha, .flo, .flo, .flo, .flo, .cha, .flo, .flo, .flo, .cha, .flo] (by kernel_rfl) (by kernel_rfl) rfl ?_
    simp only [List.take, List.zip, List.zipWith]
    try go_frame
    refine Gd.yes (by kernel_rfl) (gm_loadS (.tmp 11) rfl (b0 + 1) (#[.int .i64 r.slot, .bool r.up, .int .i64 r.count, .int .i64 r.s0, .int .i64 r.s1]) 24 (0, 0) _ (Q1.out) (by simp) rfl Tryz.underlying24 rfl (by kernel_rfl) (gm_nil ?_))
    try go_frame
    refine Gd.yes (by kernel_rfl) (gm_move (.tmp 5) (.inl rfl) (.int .i64 (N : Int)) rfl (gm_nil ?_))
    try go_frame
    refine Gd.yes (by kernel_rfl) (gm_move (.tmp 5) (.inl rfl) (.int .i64 (N : Int)) rfl (gm_nil ?_))
    try go_frame
    refine Gd.yes (by kernel_rfl) (gm_flo (.bool false) (fun w1 hw1 => ?_) (gm_nil ?_))
    · go_simp
    try go_frame
    refine Gd.yes (by kernel_rfl) (gm_move (.tmp 46) (.inl rfl) (.bool false) rfl (gm_nil ?_))
    try go_frame
    refine Gd.no (by kernel_rfl) ?_
    try go_frame
    refine Gd.noC (by kernel_rfl) (Stb.row _ _) ?_
    try go_frame
    refine Gd.yes (by kernel_rfl) (gm_flo (.bool false) (fun w1 hw1 => ?_) (gm_nil ?_))
    · go_simp
    try go_frame
    refine Gd.yes (by kernel_rfl) (gm_move (.tmp 50) (.inl rfl) (.bool false) rfl (gm_nil ?_))
    try go_frame
    refine Gd.no (by kernel_rfl) ?_
    try go_frame
    refine Gd.no (by kernel_rfl) ?_
    try go_frame
    refine Gd.noC (by kernel_rfl) (Stb.row _ _) ?_
    try go_frame
    refine Gd.no (by kernel_rfl) ?_
    try go_frame
    refine Gd.no (by kernel_rfl) ?_
    try go_frame
    refine Gd.yes (by kernel_rfl) (gm_flo (.bool false) (fun w1 hw1 => ?_) (gm_nil ?_))
    · go_simp
    try go_frame
    refine Gd.yes (by kernel_rfl) (gm_store (.tmp 2) (.tmp 43) rfl b0 (brC BR.zero) (#[.int .i64 r.slot, .bool r.up, .int .i64 r.count, .int .i64 r.s0, .int .i64 r.s1]) 24 rfl rfl (by simp) rfl (by kernel_rfl) rfl (brC_one r) (fun _ => True) (fun _ h => h) Stb.tt (fun _ _ => trivial) (gm_nil ?_))
    try go_frame
    refine Gd.yes (by kernel_rfl) (gm_move (.tmp 44) (.inr rfl) (.int .i64 (N : Int)) rfl (gm_nil ?_))
    try go_frame
    refine Gd.nil ?_
    intro w9 hw9 hF9
    simp only [List.drop]
    try go_frame
    have h9 := hw9.upd
    have r9 := hF9.2
    go_wp2_with fail
    refine bodyPost_ret (results_cell2 (p := 2) (t := 3) (u := 4) (ty := 24) rfl _ _ b0 24 (brC r) _ rfl r9 Tryz.underlying24 rfl (by kernel_rfl)) rfl ?_
    rw [HV.out]
    exact ⟨rfl, (Upd.below BEL.out h9 (fun k hk => by simp at hk; omega) (by have := BEL.out.size; have := HB0.out; omega)).mono (Nat.le_of_eq HB0.out.symm)⟩
  · have hn1I : decide ((0 : Int) < (N : Int)) = true := by rw [decide_eq_true_iff]; omega
    have hn2 : 0 < N := by omega
    have MA := Box.mk (fun w => rmay_any r w)
    unfold brV brC at MA
    by_cases hm : r.May
    · have hmb := (BR.may_iff r).2 hm
      rw [hmb] at MA
      have PG := Box.mk (fun w => rpage_any r N hm HNUM48.out w)
      unfold brV brC at PG
      obtain ⟨c, hc⟩ : ∃ c : ByteArray, c = ⟨(pageB r N).toArray⟩ := ⟨_, rfl⟩
      have hcd : c.data.toList = pageB r N := by rw [hc]
      rw [← hc] at PG
      by_cases heq : pageB r N = s.data.toList
      · have heqI : (c.toList == s.toList) = true := by rw [beq_iff_eq, ByteArray.toList_eq, ByteArray.toList_eq, hcd, heq]
        have HV : Box (V = true) := ⟨by rw [hV, cnt_iff, HREC.out, HNUM.out]; exact ⟨by omega, hm, heq⟩⟩
        clear hV hn1 hm hmb hc hcd heq
        refine Gd.wp_region_mixS [b0] (fun x => True ∧ x.heap[b0]? = some (.cells (brC BR.zero) 24 (0, 0))) (Stb.row _ _) (⟨trivial, Q0.out⟩) (fun k hk => by simp at hk; subst hk; exact Gr.blt Q0.out) 17 [.flo, .flo, .flo, .flo, .flo, .flo, .cha, .flo, .flo, .flo, .flo, .cha, .flo, .flo, .flo, .cha, .flo] (by kernel_rfl) (by kernel_rfl) rfl ?_
        simp only [List.take, List.zip, List.zipWith]
        try go_frame
        refine Gd.yes (by kernel_rfl) (gm_loadS (.tmp 11) rfl (b0 + 1) (#[.int .i64 r.slot, .bool r.up, .int .i64 r.count, .int .i64 r.s0, .int .i64 r.s1]) 24 (0, 0) _ (Q1.out) (by simp) rfl Tryz.underlying24 rfl (by kernel_rfl) (gm_nil ?_))
        try go_frame
        refine Gd.yes (by kernel_rfl) (gm_move (.tmp 5) (.inl rfl) (.int .i64 (N : Int)) rfl (gm_nil ?_))
        try go_frame
        refine Gd.yes (by kernel_rfl) (gm_move (.tmp 5) (.inl rfl) (.int .i64 (N : Int)) rfl (gm_nil ?_))
        try go_frame
        refine Gd.yes (by kernel_rfl) (gm_flo (.bool true) (fun w1 hw1 => ?_) (gm_nil ?_))
        · go_simp
        try go_frame
        refine Gd.yes (by kernel_rfl) (gm_move (.tmp 46) (.inl rfl) (.bool true) rfl (gm_nil ?_))
        try go_frame
        refine Gd.yes (by kernel_rfl) (gm_loadS (.tmp 11) rfl (b0 + 1) (#[.int .i64 r.slot, .bool r.up, .int .i64 r.count, .int .i64 r.s0, .int .i64 r.s1]) 24 (0, 0) _ (Q1.out) (by simp) rfl Tryz.underlying24 rfl (by kernel_rfl) (gm_nil ?_))
        try go_frame
        refine Gd.yes (by kernel_rfl) (gm_call [.agg #[.int .i64 r.slot, .bool r.up, .int .i64 r.count, .int .i64 r.s0, .int .i64 r.s1]] (by kernel_rfl) rfl rfl (Stb.row _ _) (fun w1 hw1 hF1 => (MA.out w1).mono ?_))
        rintro e w2 ⟨rfl, hb⟩
        refine ⟨_, rfl, hb, gm_nil ?_⟩
        try go_frame
        refine Gd.yes (by kernel_rfl) (gm_flo (.bool true) (fun w1 hw1 => ?_) (gm_nil ?_))
        · go_simp
        try go_frame
        refine Gd.yes (by kernel_rfl) (gm_move (.tmp 50) (.inl rfl) (.bool true) rfl (gm_nil ?_))
        try go_frame
        refine Gd.yes (by kernel_rfl) (gm_loadS (.tmp 11) rfl (b0 + 1) (#[.int .i64 r.slot, .bool r.up, .int .i64 r.count, .int .i64 r.s0, .int .i64 r.s1]) 24 (0, 0) _ (Q1.out) (by simp) rfl Tryz.underlying24 rfl (by kernel_rfl) (gm_nil ?_))
        try go_frame
        refine Gd.yes (by kernel_rfl) (gm_move (.tmp 5) (.inl rfl) (.int .i64 (N : Int)) rfl (gm_nil ?_))
        try go_frame
        refine Gd.yes (by kernel_rfl) (gm_call [.agg #[.int .i64 r.slot, .bool r.up, .int .i64 r.count, .int .i64 r.s0, .int .i64 r.s1], .int .i64 (N : Int)] (by kernel_rfl) rfl rfl (Stb.row _ _) (fun w1 hw1 hF1 => (PG.out w1).mono ?_))
        rintro e w2 ⟨rfl, hb⟩
        refine ⟨_, rfl, hb, gm_nil ?_⟩
        try go_frame
        refine Gd.yes (by kernel_rfl) (gm_move (.tmp 0) (.inl rfl) (.string s) rfl (gm_nil ?_))
        try go_frame
        refine Gd.yes (by kernel_rfl) (gm_flo (.bool true) (fun w1 hw1 => ?_) (gm_nil ?_))
        · go_simp
        try go_frame
        refine Gd.yes (by kernel_rfl) (gm_flo (.bool true) (fun w1 hw1 => ?_) (gm_nil ?_))
        · go_simp
        try go_frame
        refine Gd.yes (by kernel_rfl) (gm_store (.tmp 2) (.tmp 43) rfl b0 (brC BR.zero) (#[.int .i64 r.slot, .bool r.up, .int .i64 r.count, .int .i64 r.s0, .int .i64 r.s1]) 24 rfl rfl (by simp) rfl (by kernel_rfl) rfl (brC_one r) (fun _ => True) (fun _ h => h) Stb.tt (fun _ _ => trivial) (gm_nil ?_))
        try go_frame
        refine Gd.yes (by kernel_rfl) (gm_move (.tmp 44) (.inr rfl) (.int .i64 (N : Int)) rfl (gm_nil ?_))
        try go_frame
        refine Gd.nil ?_
        intro w9 hw9 hF9
        simp only [List.drop]
        try go_frame
        have h9 := hw9.upd
        have r9 := hF9.2
        go_wp2_with fail
        refine bodyPost_ret (results_cell2 (p := 2) (t := 3) (u := 4) (ty := 24) rfl _ _ b0 24 (brC r) _ rfl r9 Tryz.underlying24 rfl (by kernel_rfl)) rfl ?_
        rw [HV.out]
        exact ⟨rfl, (Upd.below BEL.out h9 (fun k hk => by simp at hk; omega) (by have := BEL.out.size; have := HB0.out; omega)).mono (Nat.le_of_eq HB0.out.symm)⟩
      · have heqI : (c.toList == s.toList) = false := by rw [beq_eq_false_iff_ne, ByteArray.toList_eq, ByteArray.toList_eq, hcd]; exact heq
        have HV : Box (V = false) := ⟨by rw [hV, ← Bool.not_eq_true, cnt_iff, HREC.out, HNUM.out]; intro h; exact heq h.2.2⟩
        clear hV hn1 hm hmb hc hcd heq
        refine Gd.wp_region_mixS [b0] (fun x => True ∧ x.heap[b0]? = some (.cells (brC BR.zero) 24 (0, 0))) (Stb.row _ _) (⟨trivial, Q0.out⟩) (fun k hk => by simp at hk; subst hk; exact Gr.blt Q0.out) 17 [.flo, .flo, .flo, .flo, .flo, .flo, .cha, .flo, .flo, .flo, .flo, .cha, .flo, .flo, .flo, .cha, .flo] (by kernel_rfl) (by kernel_rfl) rfl ?_
        simp only [List.take, List.zip, List.zipWith]
        try go_frame
        refine Gd.yes (by kernel_rfl) (gm_loadS (.tmp 11) rfl (b0 + 1) (#[.int .i64 r.slot, .bool r.up, .int .i64 r.count, .int .i64 r.s0, .int .i64 r.s1]) 24 (0, 0) _ (Q1.out) (by simp) rfl Tryz.underlying24 rfl (by kernel_rfl) (gm_nil ?_))
        try go_frame
        refine Gd.yes (by kernel_rfl) (gm_move (.tmp 5) (.inl rfl) (.int .i64 (N : Int)) rfl (gm_nil ?_))
        try go_frame
        refine Gd.yes (by kernel_rfl) (gm_move (.tmp 5) (.inl rfl) (.int .i64 (N : Int)) rfl (gm_nil ?_))
        try go_frame
        refine Gd.yes (by kernel_rfl) (gm_flo (.bool true) (fun w1 hw1 => ?_) (gm_nil ?_))
        · go_simp
        try go_frame
        refine Gd.yes (by kernel_rfl) (gm_move (.tmp 46) (.inl rfl) (.bool true) rfl (gm_nil ?_))
        try go_frame
        refine Gd.yes (by kernel_rfl) (gm_loadS (.tmp 11) rfl (b0 + 1) (#[.int .i64 r.slot, .bool r.up, .int .i64 r.count, .int .i64 r.s0, .int .i64 r.s1]) 24 (0, 0) _ (Q1.out) (by simp) rfl Tryz.underlying24 rfl (by kernel_rfl) (gm_nil ?_))
        try go_frame
        refine Gd.yes (by kernel_rfl) (gm_call [.agg #[.int .i64 r.slot, .bool r.up, .int .i64 r.count, .int .i64 r.s0, .int .i64 r.s1]] (by kernel_rfl) rfl rfl (Stb.row _ _) (fun w1 hw1 hF1 => (MA.out w1).mono ?_))
        rintro e w2 ⟨rfl, hb⟩
        refine ⟨_, rfl, hb, gm_nil ?_⟩
        try go_frame
        refine Gd.yes (by kernel_rfl) (gm_flo (.bool true) (fun w1 hw1 => ?_) (gm_nil ?_))
        · go_simp
        try go_frame
        refine Gd.yes (by kernel_rfl) (gm_move (.tmp 50) (.inl rfl) (.bool true) rfl (gm_nil ?_))
        try go_frame
        refine Gd.yes (by kernel_rfl) (gm_loadS (.tmp 11) rfl (b0 + 1) (#[.int .i64 r.slot, .bool r.up, .int .i64 r.count, .int .i64 r.s0, .int .i64 r.s1]) 24 (0, 0) _ (Q1.out) (by simp) rfl Tryz.underlying24 rfl (by kernel_rfl) (gm_nil ?_))
        try go_frame
        refine Gd.yes (by kernel_rfl) (gm_move (.tmp 5) (.inl rfl) (.int .i64 (N : Int)) rfl (gm_nil ?_))
        try go_frame
        refine Gd.yes (by kernel_rfl) (gm_call [.agg #[.int .i64 r.slot, .bool r.up, .int .i64 r.count, .int .i64 r.s0, .int .i64 r.s1], .int .i64 (N : Int)] (by kernel_rfl) rfl rfl (Stb.row _ _) (fun w1 hw1 hF1 => (PG.out w1).mono ?_))
        rintro e w2 ⟨rfl, hb⟩
        refine ⟨_, rfl, hb, gm_nil ?_⟩
        try go_frame
        refine Gd.yes (by kernel_rfl) (gm_move (.tmp 0) (.inl rfl) (.string s) rfl (gm_nil ?_))
        try go_frame
        refine Gd.yes (by kernel_rfl) (gm_flo (.bool false) (fun w1 hw1 => ?_) (gm_nil ?_))
        · go_simp
        try go_frame
        refine Gd.yes (by kernel_rfl) (gm_flo (.bool false) (fun w1 hw1 => ?_) (gm_nil ?_))
        · go_simp
        try go_frame
        refine Gd.yes (by kernel_rfl) (gm_store (.tmp 2) (.tmp 43) rfl b0 (brC BR.zero) (#[.int .i64 r.slot, .bool r.up, .int .i64 r.count, .int .i64 r.s0, .int .i64 r.s1]) 24 rfl rfl (by simp) rfl (by kernel_rfl) rfl (brC_one r) (fun _ => True) (fun _ h => h) Stb.tt (fun _ _ => trivial) (gm_nil ?_))
        try go_frame
        refine Gd.yes (by kernel_rfl) (gm_move (.tmp 44) (.inr rfl) (.int .i64 (N : Int)) rfl (gm_nil ?_))
        try go_frame
        refine Gd.nil ?_
        intro w9 hw9 hF9
        simp only [List.drop]
        try go_frame
        have h9 := hw9.upd
        have r9 := hF9.2
        go_wp2_with fail
        refine bodyPost_ret (results_cell2 (p := 2) (t := 3) (u := 4) (ty := 24) rfl _ _ b0 24 (brC r) _ rfl r9 Tryz.underlying24 rfl (by kernel_rfl)) rfl ?_
        rw [HV.out]
        exact ⟨rfl, (Upd.below BEL.out h9 (fun k hk => by simp at hk; omega) (by have := BEL.out.size; have := HB0.out; omega)).mono (Nat.le_of_eq HB0.out.symm)⟩
    · have hmb := (BR.may_no r).2 hm
      rw [hmb] at MA
      have HV : Box (V = false) := ⟨by rw [hV, ← Bool.not_eq_true, cnt_iff, HREC.out]; intro h; exact hm h.2.1⟩
      clear hV hn1 hm hmb
      refine Gd.wp_region_mixS [b0] (fun x => True ∧ x.heap[b0]? = some (.cells (brC BR.zero) 24 (0, 0))) (Stb.row _ _) (⟨trivial, Q0.out⟩) (fun k hk => by simp at hk; subst hk; exact Gr.blt Q0.out) 17 [.flo, .flo, .flo, .flo, .flo, .flo, .cha, .flo, .flo, .flo, .flo, .cha, .flo, .flo, .flo, .cha, .flo] (by kernel_rfl) (by kernel_rfl) rfl ?_
      simp only [List.take, List.zip, List.zipWith]
      try go_frame
      refine Gd.yes (by kernel_rfl) (gm_loadS (.tmp 11) rfl (b0 + 1) (#[.int .i64 r.slot, .bool r.up, .int .i64 r.count, .int .i64 r.s0, .int .i64 r.s1]) 24 (0, 0) _ (Q1.out) (by simp) rfl Tryz.underlying24 rfl (by kernel_rfl) (gm_nil ?_))
      try go_frame
      refine Gd.yes (by kernel_rfl) (gm_move (.tmp 5) (.inl rfl) (.int .i64 (N : Int)) rfl (gm_nil ?_))
      try go_frame
      refine Gd.yes (by kernel_rfl) (gm_move (.tmp 5) (.inl rfl) (.int .i64 (N : Int)) rfl (gm_nil ?_))
      try go_frame
      refine Gd.yes (by kernel_rfl) (gm_flo (.bool true) (fun w1 hw1 => ?_) (gm_nil ?_))
      · go_simp
      try go_frame
      refine Gd.yes (by kernel_rfl) (gm_move (.tmp 46) (.inl rfl) (.bool true) rfl (gm_nil ?_))
      try go_frame
      refine Gd.yes (by kernel_rfl) (gm_loadS (.tmp 11) rfl (b0 + 1) (#[.int .i64 r.slot, .bool r.up, .int .i64 r.count, .int .i64 r.s0, .int .i64 r.s1]) 24 (0, 0) _ (Q1.out) (by simp) rfl Tryz.underlying24 rfl (by kernel_rfl) (gm_nil ?_))
      try go_frame
      refine Gd.yes (by kernel_rfl) (gm_call [.agg #[.int .i64 r.slot, .bool r.up, .int .i64 r.count, .int .i64 r.s0, .int .i64 r.s1]] (by kernel_rfl) rfl rfl (Stb.row _ _) (fun w1 hw1 hF1 => (MA.out w1).mono ?_))
      rintro e w2 ⟨rfl, hb⟩
      refine ⟨_, rfl, hb, gm_nil ?_⟩
      try go_frame
      refine Gd.yes (by kernel_rfl) (gm_flo (.bool false) (fun w1 hw1 => ?_) (gm_nil ?_))
      · go_simp
      try go_frame
      refine Gd.yes (by kernel_rfl) (gm_move (.tmp 50) (.inl rfl) (.bool false) rfl (gm_nil ?_))
      try go_frame
      refine Gd.no (by kernel_rfl) ?_
      try go_frame
      refine Gd.no (by kernel_rfl) ?_
      try go_frame
      refine Gd.noC (by kernel_rfl) (Stb.row _ _) ?_
      try go_frame
      refine Gd.no (by kernel_rfl) ?_
      try go_frame
      refine Gd.no (by kernel_rfl) ?_
      try go_frame
      refine Gd.yes (by kernel_rfl) (gm_flo (.bool false) (fun w1 hw1 => ?_) (gm_nil ?_))
      · go_simp
      try go_frame
      refine Gd.yes (by kernel_rfl) (gm_store (.tmp 2) (.tmp 43) rfl b0 (brC BR.zero) (#[.int .i64 r.slot, .bool r.up, .int .i64 r.count, .int .i64 r.s0, .int .i64 r.s1]) 24 rfl rfl (by simp) rfl (by kernel_rfl) rfl (brC_one r) (fun _ => True) (fun _ h => h) Stb.tt (fun _ _ => trivial) (gm_nil ?_))
      try go_frame
      refine Gd.yes (by kernel_rfl) (gm_move (.tmp 44) (.inr rfl) (.int .i64 (N : Int)) rfl (gm_nil ?_))
      try go_frame
      refine Gd.nil ?_
      intro w9 hw9 hF9
      simp only [List.drop]
      try go_frame
      have h9 := hw9.upd
      have r9 := hF9.2
      go_wp2_with fail
      refine bodyPost_ret (results_cell2 (p := 2) (t := 3) (u := 4) (ty := 24) rfl _ _ b0 24 (brC r) _ rfl r9 Tryz.underlying24 rfl (by kernel_rfl)) rfl ?_
      rw [HV.out]
      exact ⟨rfl, (Upd.below BEL.out h9 (fun k hk => by simp at hk; omega) (by have := BEL.out.size; have := HB0.out; omega)).mono (Nat.le_of_eq HB0.out.symm)⟩
end Go.Proofs.YtgcbmjflodgnbaaGreatDoor
