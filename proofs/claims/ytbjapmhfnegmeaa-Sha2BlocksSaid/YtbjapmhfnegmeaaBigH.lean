/- The document of sha2: Of, a kind's constants. -/
import Derived.Test.YtbjapmhfnegmeaaBigC
import Derived.Test.YtbjapmhfnegmeaaBigD
import Derived.Test.YtbjapmhfnegmeaaBigF
import Derived.Test.YtbjapmhfnegmeaaBigG
namespace Go.Proofs.Ytbjapmhfnegmeaa.Big
set_option linter.unusedVariables false
open Go Go.RowKit
open Sha
def kz : KV := ⟨0, ⟨⟨0, 0, 0⟩, ⟨0, 0, 0⟩, ⟨0, 0, 0⟩, ⟨0, 0, 0⟩⟩, .slice none 0 0, .slice none 0 0⟩
theorem kc_one (k : KV) (hK : k.K.oneCell' = true) (hH : k.H.oneCell' = true) : (kc k).all (·.oneCell') = true := by
  simp [kc, iv, Value.oneCell']
  simp [Value.oneCell'] at hK hH
  exact ⟨hK, hH⟩
theorem kc_setK (W : Nat) (s : Sh) (a b c : Value) : (kc ⟨W, s, a, b⟩).setIfInBounds 13 c = kc ⟨W, s, c, b⟩ := rfl
theorem kc_setH (W : Nat) (s : Sh) (a b c : Value) : (kc ⟨W, s, a, b⟩).setIfInBounds 14 c = kc ⟨W, s, a, c⟩ := rfl
theorem wpList_storeK {ops : Array Oper} {rest : List Oper} {o : Oper} {a : Act} {w : World} {Q : Exit → Act → World → Prop} (hgd : o.guard = none) (x y : Operand) (ho : o.op = .store 42 x y)
    (g : Nat) (k k0 : KV) (hk : (kc k).all (·.oneCell') = true) (hg : w.heap[g]? = some (.cells (kc k0) 42 (0, 0))) (hx : a.eval x = .pointer (some ⟨g, 0, none⟩)) (hy : a.eval y = .agg (kc k))
    (h : wpList Try.prog ops Q rest (a.put o.dst undef) (w.setRow g (kc k))) : wpList Try.prog ops Q (o :: rest) a w :=
  wpList_store_row hgd 42 x y ho g (kc k) hx hy 42 (kc k0) hg (by kernel_rfl) rfl hk h
theorem wpList_loadK {ops : Array Oper} {rest : List Oper} {o : Oper} {a : Act} {w : World} {Q : Exit → Act → World → Prop} (hgd : o.guard = none) (x : Operand) (ho : o.op = .load 42 x)
    (g : Nat) (k : KV) (hg : w.heap[g]? = some (.cells (kc k) 42 (0, 0))) (hx : a.eval x = .pointer (some ⟨g, 0, none⟩))
    (h : wpList Try.prog ops Q rest (a.put o.dst (.agg (kc k))) w) : wpList Try.prog ops Q (o :: rest) a w :=
  wpList_load_row hgd 42 x ho g hx 42 (kc k) (0, 0) _ hg Try.underlying42 rfl (by kernel_rfl) h
/-- The constants so far: a kind in block b, its two rows apart. -/
structure OSt (w0 : World) (b : Nat) (W : Nat) (s : Sh) (vK vH : Value) (n m : Nat) (xs ys : List Nat) (wr : World) : Prop where
  upd : Upd [b] w0 wr
  row : wr.heap[b]? = some (.cells (kc ⟨W, s, vK, vH⟩) 42 (0, 0))
  oK : Own wr w0.heap.size 44 vK n (xs.map u64v)
  oH : Own wr w0.heap.size 44 vH m (ys.map u64v)
  sep : ∀ k, vK.ownBlock = some k → vH.ownBlock ≠ some k
theorem OSt.drew {w0 wr : World} {b W n m : Nat} {s : Sh} {vK vH : Value} {xs ys : List Nat} (h : OSt w0 b W s vK vH n m xs ys wr) : OSt w0 b W s vK vH n m xs ys wr.drew :=
  ⟨h.upd.drew, h.row, h.oK.drew, h.oH.drew, h.sep⟩
theorem Own.notK {w : World} {B b n : Nat} {v : Value} {xs : List Value} {cs : Array Value} {fr : Nat × Nat} (h : Own w B 44 v n xs) (hb : w.heap[b]? = some (.cells cs 42 fr)) : ∀ k, v.ownBlock = some k → k ≠ b := by
  intro k he e
  subst e
  rcases h.2 with ⟨rfl, _⟩ | ⟨g, cap, cur, fr, rfl, _, hg, _⟩
  · simp [Value.ownBlock] at he
  · simp [Value.ownBlock] at he
    subst he
    rw [hb] at hg
    have := Option.some.inj hg
    injection this with _ h2 _
    exact absurd h2 (by decide)
/-- One more behind the first row: the world w' behind the append, the kind stored anew. -/
theorem OSt.addK {w0 wr w' : World} {b W n m : Nat} {s : Sh} {vK vH v' : Value} {xs ys : List Nat} {y : Nat} (h : OSt w0 b W s vK vH n m xs ys wr) (hg : GrS vK.ownBlock.toList wr w')
    (ho : Own w' w0.heap.size 44 v' (n + 1) (xs.map u64v ++ [u64v y])) (hv : ∀ k, v'.ownBlock = some k → vK.ownBlock = some k ∨ wr.heap.size ≤ k) (hb : b < w0.heap.size) :
    OSt w0 b W s v' vH (n + 1) m (xs ++ [y]) ys (w'.setCell ⟨b, 13, none⟩ v') := by
  have hnb : b ∉ vK.ownBlock.toList := fun hm => by
    have := Own.notK h.oK h.row b (by simpa using hm)
    exact this rfl
  have hrow : w'.heap[b]? = _ := hg.at hnb h.row
  have hH : ∀ k, vH.ownBlock = some k → w'.heap[k]? = wr.heap[k]? := fun k hk => hg.block k (h.oH.lt k hk).2 (fun hm => h.sep k (by simpa using hm) hk)
  refine ⟨⟨hg.os.trans h.upd.os, hg.tape.trans h.upd.tape, hg.output.trans h.upd.output, ?_, fun i hi hn => ?_⟩, ?_, ?_, ?_, ?_⟩
  · simpa using Nat.le_trans h.upd.size hg.size
  · rw [heap_setCell_other _ _ _ _ (by simpa using hn), hg.block i (Nat.lt_of_lt_of_le hi h.upd.size) (fun hm => by have := (h.oK.lt i (by simpa using hm)).1; omega)]
    exact h.upd.block i hi hn
  · rw [heap_setCell_same _ _ _ _ _ _ hrow, kc_setK]
  · rw [List.map_append]
    refine ho.keep fun k hk => heap_setCell_other _ _ _ _ ?_
    exact Own.notK ho hrow k hk
  · refine (h.oH.keep hH).keep fun k hk => heap_setCell_other _ _ _ _ ?_
    exact Own.notK h.oH h.row k hk
  · intro k hk hk2
    rcases hv k hk with h1 | h1
    · exact h.sep k h1 hk2
    · have := (h.oH.lt k hk2).2; omega
theorem OSt.addH {w0 wr w' : World} {b W n m : Nat} {s : Sh} {vK vH v' : Value} {xs ys : List Nat} {y : Nat} (h : OSt w0 b W s vK vH n m xs ys wr) (hg : GrS vH.ownBlock.toList wr w')
    (ho : Own w' w0.heap.size 44 v' (m + 1) (ys.map u64v ++ [u64v y])) (hv : ∀ k, v'.ownBlock = some k → vH.ownBlock = some k ∨ wr.heap.size ≤ k) (hb : b < w0.heap.size) :
    OSt w0 b W s vK v' n (m + 1) xs (ys ++ [y]) (w'.setCell ⟨b, 14, none⟩ v') := by
  have hnb : b ∉ vH.ownBlock.toList := fun hm => by
    have := Own.notK h.oH h.row b (by simpa using hm)
    exact this rfl
  have hrow : w'.heap[b]? = _ := hg.at hnb h.row
  have hK : ∀ k, vK.ownBlock = some k → w'.heap[k]? = wr.heap[k]? := fun k hk => hg.block k (h.oK.lt k hk).2 (fun hm => h.sep k hk (by simpa using hm))
  refine ⟨⟨hg.os.trans h.upd.os, hg.tape.trans h.upd.tape, hg.output.trans h.upd.output, ?_, fun i hi hn => ?_⟩, ?_, ?_, ?_, ?_⟩
  · simpa using Nat.le_trans h.upd.size hg.size
  · rw [heap_setCell_other _ _ _ _ (by simpa using hn), hg.block i (Nat.lt_of_lt_of_le hi h.upd.size) (fun hm => by have := (h.oH.lt i (by simpa using hm)).1; omega)]
    exact h.upd.block i hi hn
  · rw [heap_setCell_same _ _ _ _ _ _ hrow, kc_setH]
  · refine (h.oK.keep hK).keep fun k hk => heap_setCell_other _ _ _ _ ?_
    exact Own.notK h.oK h.row k hk
  · rw [List.map_append]
    refine ho.keep fun k hk => heap_setCell_other _ _ _ _ ?_
    exact Own.notK ho hrow k hk
  · intro k hk hk2
    rcases hv k hk2 with h1 | h1
    · exact h.sep k hk h1
    · have := (h.oK.lt k hk).2; omega
theorem cellS {W w : World} {S : List Nat} (hw : GrS S W w) {g j : Nat} {v : Value} (hg : g < W.heap.size) (hn : g ∉ S) (h : W.cell? ⟨g, j, none⟩ = some v) : w.cell? ⟨g, j, none⟩ = some v :=
  (World.cell?_of_block (w := W) (hw.block g hg hn)).trans h
theorem ps_len : ps.length = 80 := by decide
theorem ps_lt : ∀ p ∈ ps, p < 1000 := by decide
theorem K_len : K.length = 80 := by decide
theorem K_at (i : Nat) (hi : i < 80) : rootF (ps.getD i 0) 3 = K.getD i 0 := by
  rw [← roots3, List.getD_eq_getElem?_getD, List.getD_eq_getElem?_getD, List.getElem?_map, List.getElem?_eq_getElem (by rw [ps_len]; exact hi)]
  rfl
theorem H_at (i : Nat) (hi : i < 8) : rootF (ps.getD i 0) 2 = k512.h.list.getD i 0 := by
  rw [← roots2, List.getD_eq_getElem?_getD, List.getD_eq_getElem?_getD, List.getElem?_map, List.getElem?_take, if_pos hi, List.getElem?_eq_getElem (by rw [ps_len]; omega)]
  rfl
theorem take_getD (l : List Nat) (m i : Nat) (h : i < m) : (l.take m).getD i 0 = l.getD i 0 := by
  rw [List.getD_eq_getElem?_getD, List.getD_eq_getElem?_getD, List.getElem?_take, if_pos h]
theorem root_lt (n p : Nat) : rootF n p < 18446744073709551616 := Nat.mod_lt _ (by decide)
/-- The constants of 32 bits. -/
@[irreducible] def K32 : List Nat := (K.take 64).map (· / 4294967296)
theorem K32_eq : K32 = (K.take 64).map (· / 4294967296) := by unfold K32; rfl
theorem K32_len : K32.length = 64 := by rw [K32_eq]; decide
theorem K32_at (i : Nat) (hi : i < 64) : rootF (ps.getD i 0) 3 / 4294967296 = K32.getD i 0 := by
  rw [K_at i (by omega), K32_eq, List.getD_eq_getElem?_getD, List.getD_eq_getElem?_getD, List.getElem?_map, List.getElem?_take, if_pos hi, List.getElem?_eq_getElem (by rw [K_len]; omega)]; rfl
@[irreducible] def H32 : List Nat := k256.h.list
theorem H32_len : H32.length = 8 := by unfold H32; rfl
theorem H32_at (i : Nat) (hi : i < 8) : rootF (ps.getD i 0) 2 / 4294967296 = H32.getD i 0 := by
  rw [H_at i hi]; unfold H32
  match i, hi with
  | 0, _ => rfl
  | 1, _ => rfl
  | 2, _ => rfl
  | 3, _ => rfl
  | 4, _ => rfl
  | 5, _ => rfl
  | 6, _ => rfl
  | 7, _ => rfl
@[irreducible] def K64 : List Nat := K
theorem K64_len : K64.length = 80 := by unfold K64; exact K_len
theorem K64_at (i : Nat) (hi : i < 80) : rootF (ps.getD i 0) 3 = K64.getD i 0 := by unfold K64; exact K_at i hi
@[irreducible] def H64 : List Nat := k512.h.list
theorem H64_len : H64.length = 8 := by unfold H64; rfl
theorem H64_at (i : Nat) (hi : i < 8) : rootF (ps.getD i 0) 2 = H64.getD i 0 := by unfold H64; exact H_at i hi
theorem take_snoc (l : List Nat) (k : Nat) (h : k < l.length) : l.take (k + 1) = l.take k ++ [l.getD k 0] := by
  rw [List.take_succ_eq_append_getElem h, List.getD_eq_getElem?_getD, List.getElem?_eq_getElem h]; rfl
set_option maxRecDepth 100000 in
set_option maxHeartbeats 4000000 in
theorem of32_any (w : World) :
    Calls Try.prog 15 #[.int .i64 0] w fun e w' => ∃ vK vH, e = .returned (.agg (kc ⟨32, sh256, vK, vH⟩)) ∧ Own w' w.heap.size 44 vK 64 (K32.map u64v) ∧ Own w' w.heap.size 44 vH 8 (H32.map u64v) ∧ vK ≠ .slice none 0 0 ∧ vH ≠ .slice none 0 0 ∧ Below w.heap.size w w' := by
  go_enter Try.func15, Try.ntmps15
  go_upto_region 0 with (fail)
  refine wp_region_seq 1 [.new (.cells (kc kz) 42)] (by rfl) rfl (by decide) ?_
  simp only [List.take, List.zip, List.zipWith]
  try go_frame
  refine gm_alloc rfl (.cells (kc kz) 42) (fun _ => by kernel_rfl) (fun b2 hb2 hn2 => ?_)
  try go_frame
  refine gm_nil ?_
  intro w1 hw1 hF1
  simp only [List.drop]
  try go_frame
  have HW1 := Box.mk hw1; have R1 := Box.mk hF1.2; have G2 := Box.mk hb2
  clear hw1 hF1 hb2 hn2
  go_upto_region 1 with (fail)
  refine wp_region_seq 7 [.flo, .flo, .flo, .flo, .flo, .new (.cells (kc kz) 42), .cha] (by rfl) rfl (by decide) ?_
  simp only [List.take, List.zip, List.zipWith]
  try go_frame
  refine gm_flo (.agg (tc ⟨2, 13, 22⟩)) (fun w1 _ => by kernel_rfl) ?_
  try go_frame
  refine gm_flo (.agg (tc ⟨6, 11, 25⟩)) (fun w1 _ => by kernel_rfl) ?_
  try go_frame
  refine gm_flo (.agg (tc ⟨7, 18, 3⟩)) (fun w1 _ => by kernel_rfl) ?_
  try go_frame
  refine gm_flo (.agg (tc ⟨17, 19, 10⟩)) (fun w1 _ => by kernel_rfl) ?_
  try go_frame
  refine gm_flo (.agg (kc ⟨32, sh256, .slice none 0 0, .slice none 0 0⟩)) (fun w1 _ => by kernel_rfl) ?_
  try go_frame
  refine gm_alloc rfl (.cells (kc kz) 42) (fun _ => by kernel_rfl) (fun b hb hn => ?_)
  try go_frame
  refine gm_storeN (.tmp 3) (.tmp 11) rfl b (kc kz) (kc ⟨32, sh256, .slice none 0 0, .slice none 0 0⟩) 42 rfl rfl (by simp) rfl kc_info rfl (kc_one _ rfl rfl) (fun _ => True) (fun _ h => ⟨trivial, h.2⟩) Stb.tt (fun _ _ => trivial) ?_
  try go_frame
  refine gm_nil ?_
  intro w2 hw2 hF2
  simp only [List.drop]
  try go_frame
  have R2 := Box.mk (hw2.block R1.out); have HW2 := Box.mk (HW1.out.trans hw2); have RB := Box.mk hF2.2
  have GB : Box (w.heap.size ≤ b) := ⟨Nat.le_trans HW1.out.size hb⟩
  have NE : Box (b ≠ b2) := ⟨Nat.ne_of_gt (Nat.lt_of_lt_of_le (Array.getElem?_eq_some_iff.1 R1.out).1 hb)⟩
  clear hw2 hF2 HW1 R1 hb hn
  go_wp2_with fail
  refine (primes_any 64 (by omega) w2).mono ?_
  rintro e w5 ⟨vl, rfl, ol, nl, hw5⟩
  obtain ⟨gl, cl, rfl, _, hcl, hgl, _⟩ := ol.cells nl
  have R5 := Box.mk ((Gr.of hw5).block RB.out); have R25 := Box.mk ((Gr.of hw5).block R2.out); have HW5 := Box.mk (HW2.out.trans (Gr.of hw5)); have LB := Box.mk (Array.getElem?_eq_some_iff.1 RB.out).1
  have GL := Box.mk hgl
  have NL : Box (gl ≠ b) := ⟨by
    have h1 := ol.lt gl rfl
    have := LB.out; omega⟩
  have HCL : Box (∀ j, j < 64 → w5.cell? ⟨gl, j, none⟩ = some (.int .i64 (ps.getD j 0 : Nat))) := ⟨fun j hj => hcl j _ (by rw [iv_at _ _ (by rw [List.length_take, ps_len]; omega), take_getD _ _ _ hj])⟩
  have S0 : Box (OSt w5 b 32 sh256 (.slice none 0 0) (.slice none 0 0) 0 0 [] [] w5) := ⟨⟨Upd.refl _ _, R5.out, Own.nil _ _ _, Own.nil _ _ _, by simp [Value.ownBlock]⟩⟩
  have B5 : Box (b < w5.heap.size) := ⟨(Array.getElem?_eq_some_iff.1 R5.out).1⟩
  clear hcl hgl hw5 ol nl R5 LB RB R2 HW2
  go_wp2_with fail
  go_loopw [6] (fun i wr => ∃ n : Nat, n ≤ 64 ∧ i = .int .i64 n ∧ ∃ vK vH, OSt w5 b 32 sh256 vK vH n (min n 8) (K32.take n) (H32.take n) wr ∧ (0 < n → vK ≠ .slice none 0 0 ∧ vH ≠ .slice none 0 0)) (fun i _ => 64 - (intOf i).toNat)
  case atStart => exact ⟨0, by omega, rfl, _, _, by simpa using S0.out, by omega⟩
  case round =>
    clear S0
    obtain ⟨n, hn, rfl, vK, vH, st, hnn⟩ := hrel
    have ST := Box.mk st; have NN := Box.mk hnn
    clear st hnn
    by_cases hlt : n < 64
    · have hltI : (n : Int) < 64 := by omega
      have NR := Box.mk (show ps.getD n 0 < 1000 from by
        rw [List.getD_eq_getElem?_getD, List.getElem?_eq_getElem (by rw [ps_len]; omega)]; exact ps_lt _ (List.getElem_mem _))
      have KA := K32_at n hlt
      have HA := Box.mk (H32_at n)
      have KT := Box.mk (take_snoc K32 n (by rw [K32_len]; exact hlt))
      have HT := Box.mk (take_snoc H32 n)
      have HC : wr.cell? ⟨gl, n, none⟩ = some (.int .i64 (ps.getD n 0 : Nat)) := (World.cell?_of_block (w := w5) (ST.out.upd.block gl GL.out (by simpa using NL.out))).trans (HCL.out n hlt)
      generalize ps.getD n 0 = p at NR KA HA HC
      have RL := root_lt p 3
      obtain ⟨x, hx⟩ : ∃ x, x = rootF p 3 := ⟨_, rfl⟩
      rw [← hx] at KA RL
      obtain ⟨y, hy⟩ : ∃ y, y = K32.getD n 0 := ⟨_, rfl⟩
      rw [← hy] at KA
      have hsh : (x : Int) / 4294967296 = (y : Int) := by omega
      have HX := Box.mk hx; have HY := Box.mk hy; have HCB := Box.mk HC; have HC0 := Box.mk ((World.cell?_of_block (w := w5) (ST.out.upd.block gl GL.out (by simpa using NL.out))).symm.trans HC)
      clear hx hy KA RL HC
      go_upto_region 10 with (fail)
      have cK : wr.drew.cell? ⟨b, 13, none⟩ = some vK := cell_of_row _ _ _ _ _ _ ST.out.row
      have cW : wr.drew.cell? ⟨b, 0, none⟩ = some (.int .i64 32) := cell_of_row _ _ _ _ _ _ ST.out.row
      have CK := Box.mk cK; have CW := Box.mk cW
      have HSl : Box (∀ k, vK.ownBlock = some k → k ∈ vK.ownBlock.toList) := ⟨fun k hk => by rw [hk]; simp⟩
      have NB : Box (b ∉ vK.ownBlock.toList) := ⟨fun hm => Own.notK ST.out.oK ST.out.row b (by simpa using hm) rfl⟩
      have NG : Box (gl ∉ vK.ownBlock.toList) := ⟨fun hm => by have := (ST.out.oK.lt gl (by simpa using hm)).1; have := GL.out; omega⟩
      have bw : Box (b < wr.drew.heap.size) := ⟨(Array.getElem?_eq_some_iff.1 ST.out.row).1⟩
      have gw : Box (gl < wr.drew.heap.size) := ⟨Nat.lt_of_lt_of_le GL.out ST.out.upd.size⟩
      clear cK cW
      refine wp_region_mixS vK.ownBlock.toList (fun w => Own w w5.heap.size 44 vK n ((K32.take n).map u64v) ∧ w5.heap.size ≤ w.heap.size) (fun w1 w2 hg h => ⟨h.1.below hg, Nat.le_trans h.2 hg.size⟩) ⟨ST.out.oK.drew, ST.out.upd.size⟩ (fun k hk => (ST.out.oK.lt k (by simpa using hk)).2) 14 [.flo, .flo, .flo, .flo, .flo, .flo, .cha, .flo, .flo, .flo, .flo, .cha, .cha, .flo] (by kernel_rfl) (by kernel_rfl) rfl ?_
      simp only [List.take, List.zip, List.zipWith]
      try go_frame
      refine gm_flo (.pointer (some ⟨b, 13, none⟩)) (fun w1 hw1 => ?_) ?_
      case refine_1 =>
        go_simp
      try go_frame
      refine gm_flo (vK) (fun w1 hw1 => ?_) ?_
      case refine_1 =>
        have hc := cellS hw1 bw.out NB.out CK.out
        go_simp
      try go_frame
      refine gm_flo (.slice (some ⟨gl, 0, none⟩) 64 cl) (fun w1 hw1 => ?_) ?_
      case refine_1 =>
        go_simp
      try go_frame
      refine gm_flo (.int .i64 (n : Nat)) (fun w1 hw1 => ?_) ?_
      case refine_1 =>
        go_simp
      try go_frame
      refine gm_flo (.pointer (some ⟨gl, n, none⟩)) (fun w1 hw1 => ?_) ?_
      case refine_1 =>
        go_simp
      try go_frame
      refine gm_flo (.int .i64 (p : Nat)) (fun w1 hw1 => ?_) ?_
      case refine_1 =>
        have hc := cellS hw1 gw.out NG.out HCB.out
        go_simp
      try go_frame
      refine gm_call [.int .i64 (p : Nat), .int .i64 3] (by kernel_rfl) rfl rfl (fun _ _ hg h => ⟨h.1.below hg, Nat.le_trans h.2 hg.size⟩) (fun w1 hw1 hF1 => (root_3 p w1 NR.out).mono ?_)
      rintro e w2 ⟨rfl, hw2⟩
      refine ⟨_, rfl, hw2, ?_⟩
      clear hw1 hF1 w1 hw2 w2
      try go_frame
      rw [← HX.out]
      refine gm_flo (.pointer (some ⟨b, 0, none⟩)) (fun w1 hw1 => ?_) ?_
      case refine_1 =>
        go_simp
      try go_frame
      refine gm_flo (.int .i64 32) (fun w1 hw1 => ?_) ?_
      case refine_1 =>
        have hc := cellS hw1 bw.out NB.out CW.out
        go_simp
      try go_frame
      refine gm_flo (.int .i64 32) (fun w1 hw1 => ?_) ?_
      case refine_1 =>
        have hwr : IntKind.i64.wrap 32 = 32 := rfl
        go_simp
      try go_frame
      refine gm_flo (.int .u64 (y : Nat)) (fun w1 hw1 => ?_) ?_
      case refine_1 =>
        go_simp
      try go_frame
      refine gm_one (e := 44) (.tmp 36) rfl (.int .u64 (y : Nat)) rfl (fun _ => by kernel_rfl) (fun _ _ hg h => ⟨h.1.below hg, Nat.le_trans h.2 hg.size⟩) (fun b1 hb1 => ?_)
      try go_frame
      refine gm_app1 (.tmp 27) (.tmp 37) 40 rfl w5.heap.size 44 (.int .u64 0) 8 Try.underlying40 (by kernel_rfl) rfl (vK) (n) ((K32.take n).map u64v) rfl b1 (.int .u64 (y : Nat)) rfl rfl (by omega) (by omega) HSl.out (fun w1 hw1 h => ⟨h.1.1, h.1.2, (cell_of_row _ _ _ _ _ _ h.2).trans rfl⟩) (fun v' hv' hv2 => ?_)
      try go_frame
      refine gm_flo (.pointer (some ⟨b, 13, none⟩)) (fun w1 hw1 => ?_) ?_
      case refine_1 =>
        go_simp
      try go_frame
      refine gm_nil ?_
      intro w9 hw9 hF9
      simp only [List.drop]
      try go_frame
      obtain ⟨g', cap', rfl, _, _, _, _⟩ := hF9.cells hv'
      have hf : w9.frozen? ⟨b, 13, none⟩ = false := frozen_of_row _ _ _ _ _ (hw9.at NB.out (show wr.drew.heap[b]? = _ from ST.out.row))
      have hcc : w9.cell? ⟨b, 13, none⟩ = some vK := cellS hw9 bw.out NB.out CK.out
      have ST2 : Box (OSt w5 b 32 sh256 (.slice (some ⟨g', 0, none⟩) (n + 1) cap') vH (n + 1) (min n 8) (K32.take (n + 1)) (H32.take n) (w9.setCell ⟨b, 13, none⟩ (.slice (some ⟨g', 0, none⟩) (n + 1) cap'))) := ⟨by
        rw [KT.out, ← HY.out]; exact ST.out.drew.addK hw9 hF9 hv2 B5.out⟩
      clear hw9 hF9 hv2 hv' CK CW HSl NB NG bw gw ST HX HY KT hsh HCB

      go_upto_if 41 with (fail)
      generalize w9.setCell ⟨b, 13, none⟩ (.slice (some ⟨g', 0, none⟩) (n + 1) cap') = wq at ST2 ⊢
      clear hf hcc
      by_cases h8 : n < 8
      · have h8I : (n : Int) < 8 := by omega
        have m8 : min n 8 = n := by omega
        have m9 : min (n + 1) 8 = n + 1 := by omega
        rw [m8] at ST2
        have HA2 := HA.out h8
        have RL := root_lt p 2
        obtain ⟨x, hx⟩ : ∃ x, x = rootF p 2 := ⟨_, rfl⟩
        rw [← hx] at HA2 RL
        obtain ⟨y, hy⟩ : ∃ y, y = H32.getD n 0 := ⟨_, rfl⟩
        rw [← hy] at HA2
        have hsh : (x : Int) / 4294967296 = (y : Int) := by omega
        have HX := Box.mk hx; have HY := Box.mk hy; have M9 := Box.mk m9
        have HT2 := Box.mk (HT.out (by rw [H32_len]; exact h8))
        have HCQ : Box (wq.drew.cell? ⟨gl, n, none⟩ = some (.int .i64 (p : Nat))) := ⟨(World.cell?_of_block (w := w5) (ST2.out.upd.block gl GL.out (by simpa using NL.out))).trans HC0.out⟩
        clear hx hy HA2 RL HA HT m8 m9 h8
        go_upto_region 12 with (fail)
        have CK : Box (wq.drew.cell? ⟨b, 14, none⟩ = some vH) := ⟨cell_of_row _ _ _ _ _ _ ST2.out.row⟩
        have CW : Box (wq.drew.cell? ⟨b, 0, none⟩ = some (.int .i64 32)) := ⟨cell_of_row _ _ _ _ _ _ ST2.out.row⟩
        have HSl : Box (∀ k, vH.ownBlock = some k → k ∈ vH.ownBlock.toList) := ⟨fun k hk => by rw [hk]; simp⟩
        have NB : Box (b ∉ vH.ownBlock.toList) := ⟨fun hm => Own.notK ST2.out.oH ST2.out.row b (by simpa using hm) rfl⟩
        have NG : Box (gl ∉ vH.ownBlock.toList) := ⟨fun hm => by have := (ST2.out.oH.lt gl (by simpa using hm)).1; have := GL.out; omega⟩
        have bw : Box (b < wq.drew.heap.size) := ⟨(Array.getElem?_eq_some_iff.1 ST2.out.row).1⟩
        have gw : Box (gl < wq.drew.heap.size) := ⟨Nat.lt_of_lt_of_le GL.out ST2.out.upd.size⟩
        refine wp_region_mixS vH.ownBlock.toList (fun w => Own w w5.heap.size 44 vH n ((H32.take n).map u64v) ∧ w5.heap.size ≤ w.heap.size) (fun w1 w2 hg h => ⟨h.1.below hg, Nat.le_trans h.2 hg.size⟩) ⟨ST2.out.oH.drew, ST2.out.upd.size⟩ (fun k hk => (ST2.out.oH.lt k (by simpa using hk)).2) 14 [.flo, .flo, .flo, .flo, .flo, .flo, .cha, .flo, .flo, .flo, .flo, .cha, .cha, .flo] (by kernel_rfl) (by kernel_rfl) rfl ?_
        simp only [List.take, List.zip, List.zipWith]
        try go_frame
        refine gm_flo (.pointer (some ⟨b, 14, none⟩)) (fun w1 hw1 => ?_) ?_
        case refine_1 =>
          go_simp
        try go_frame
        refine gm_flo (vH) (fun w1 hw1 => ?_) ?_
        case refine_1 =>
          have hc := cellS hw1 bw.out NB.out CK.out
          go_simp
        try go_frame
        refine gm_flo (.slice (some ⟨gl, 0, none⟩) 64 cl) (fun w1 hw1 => ?_) ?_
        case refine_1 =>
          go_simp
        try go_frame
        refine gm_flo (.int .i64 (n : Nat)) (fun w1 hw1 => ?_) ?_
        case refine_1 =>
          go_simp
        try go_frame
        refine gm_flo (.pointer (some ⟨gl, n, none⟩)) (fun w1 hw1 => ?_) ?_
        case refine_1 =>
          go_simp
        try go_frame
        refine gm_flo (.int .i64 (p : Nat)) (fun w1 hw1 => ?_) ?_
        case refine_1 =>
          have hc := cellS hw1 gw.out NG.out HCQ.out
          go_simp
        try go_frame
        refine gm_call [.int .i64 (p : Nat), .int .i64 2] (by kernel_rfl) rfl rfl (fun _ _ hg h => ⟨h.1.below hg, Nat.le_trans h.2 hg.size⟩) (fun w1 hw1 hF1 => (root_2 p w1 NR.out).mono ?_)
        rintro e w2 ⟨rfl, hw2⟩
        refine ⟨_, rfl, hw2, ?_⟩
        clear hw1 hF1 w1 hw2 w2
        try go_frame
        rw [← HX.out]
        refine gm_flo (.pointer (some ⟨b, 0, none⟩)) (fun w1 hw1 => ?_) ?_
        case refine_1 =>
          go_simp
        try go_frame
        refine gm_flo (.int .i64 32) (fun w1 hw1 => ?_) ?_
        case refine_1 =>
          have hc := cellS hw1 bw.out NB.out CW.out
          go_simp
        try go_frame
        refine gm_flo (.int .i64 32) (fun w1 hw1 => ?_) ?_
        case refine_1 =>
          have hwr : IntKind.i64.wrap 32 = 32 := rfl
          go_simp
        try go_frame
        refine gm_flo (.int .u64 (y : Nat)) (fun w1 hw1 => ?_) ?_
        case refine_1 =>
          go_simp
        try go_frame
        refine gm_one (e := 44) (.tmp 52) rfl (.int .u64 (y : Nat)) rfl (fun _ => by kernel_rfl) (fun _ _ hg h => ⟨h.1.below hg, Nat.le_trans h.2 hg.size⟩) (fun b1 hb1 => ?_)
        try go_frame
        refine gm_app1 (.tmp 43) (.tmp 53) 40 rfl w5.heap.size 44 (.int .u64 0) 8 Try.underlying40 (by kernel_rfl) rfl (vH) (n) ((H32.take n).map u64v) rfl b1 (.int .u64 (y : Nat)) rfl rfl (by omega) (by omega) HSl.out (fun w1 hw1 h => ⟨h.1.1, h.1.2, (cell_of_row _ _ _ _ _ _ h.2).trans rfl⟩) (fun v' hv' hv2 => ?_)
        try go_frame
        refine gm_flo (.pointer (some ⟨b, 14, none⟩)) (fun w1 hw1 => ?_) ?_
        case refine_1 =>
          go_simp
        try go_frame
        refine gm_nil ?_
        intro w9 hw9 hF9
        simp only [List.drop]
        try go_frame
        obtain ⟨g2, cap2, rfl, _, _, _, _⟩ := hF9.cells hv'
        have hf : w9.frozen? ⟨b, 14, none⟩ = false := frozen_of_row _ _ _ _ _ (hw9.at NB.out (show wq.drew.heap[b]? = _ from ST2.out.row))
        have hcc : w9.cell? ⟨b, 14, none⟩ = some vH := cellS hw9 bw.out NB.out CK.out
        have ST3 : Box (OSt w5 b 32 sh256 (.slice (some ⟨g', 0, none⟩) (n + 1) cap') (.slice (some ⟨g2, 0, none⟩) (n + 1) cap2) (n + 1) (n + 1) (K32.take (n + 1)) (H32.take (n + 1)) (w9.setCell ⟨b, 14, none⟩ (.slice (some ⟨g2, 0, none⟩) (n + 1) cap2))) := ⟨by
          rw [HT2.out, ← HY.out]; exact ST2.out.drew.addH hw9 hF9 hv2 B5.out⟩
        clear hw9 hF9 hv2 hv' CK CW HSl NB NG bw gw ST2 HX HY HT2 hsh HCQ
        go_wp2_with fail
        exact ⟨⟨n + 1, by omega, by go_num, _, _, by rw [M9.out]; exact ST3.out, fun _ => ⟨by simp, by simp⟩⟩, by simp [intOf]; omega⟩
      · have h8I : ¬ (n : Int) < 8 := by omega
        have M9 : Box (min (n + 1) 8 = min n 8) := ⟨by omega⟩
        have HTE : Box (H32.take (n + 1) = H32.take n) := ⟨by rw [List.take_of_length_le (by rw [H32_len]; omega), List.take_of_length_le (by rw [H32_len]; omega)]⟩
        have NN2 := Box.mk (NN.out (by omega)).2
        clear HA HT h8
        go_wp2_with fail
        exact ⟨⟨n + 1, by omega, by go_num, _, _, by rw [M9.out, HTE.out]; exact ST2.out, fun _ => ⟨by simp, NN2.out⟩⟩, by simp [intOf]; omega⟩
    · obtain rfl : n = 64 := by omega
      have NN := Box.mk (NN.out (by omega))
      have ST : Box (OSt w5 b 32 sh256 vK vH 64 8 K32 H32 wr) := ⟨by
        have := ST.out
        rwa [List.take_of_length_le (by rw [K32_len]; omega), List.take_of_length_le (by rw [H32_len]; omega)] at this⟩
      have NE2 : Box (b2 ∉ [b]) := ⟨by simpa using Ne.symm NE.out⟩
      have R2w : Box (wr.heap[b2]? = some (.cells (kc kz) 42 (0, 0))) := ⟨(ST.out.upd.block b2 (Array.getElem?_eq_some_iff.1 R25.out).1 NE2.out).trans R25.out⟩
      have HONE : Box ((kc ⟨32, sh256, vK, vH⟩).all (·.oneCell') = true) := ⟨by
        obtain ⟨g1, c1, h1, _⟩ := ST.out.oK.cells NN.out.1
        obtain ⟨g2, c2, h2, _⟩ := ST.out.oH.cells NN.out.2
        exact kc_one _ (by show vK.oneCell' = true; rw [h1]; rfl) (by show vH.oneCell' = true; rw [h2]; rfl)⟩
      clear hlt hn
      go_upto_region 13 with (fail)
      refine wp_region_seq 1 [.flo] (by rfl) rfl (by decide) ?_
      simp only [List.take, List.zip, List.zipWith]
      try go_frame
      refine gm_loadK (.tmp 3) rfl b ⟨32, sh256, vK, vH⟩ ST.out.row (by simp) rfl ?_
      try go_frame
      refine gm_nil ?_
      intro w9 hw9 hF9
      simp only [List.drop]
      try go_frame
      have R9 := Box.mk (hw9.block R2w.out)
      have RK := Box.mk (show (w9.setRow b2 (kc ⟨32, sh256, vK, vH⟩)).heap[b2]? = some (.cells (kc ⟨32, sh256, vK, vH⟩) 42 (0, 0)) from setRow_heap _ _ _ _ _ _ R9.out)
      have OK9 : Box (Own (w9.setRow b2 (kc ⟨32, sh256, vK, vH⟩)) w5.heap.size 44 vK 64 (K32.map u64v)) := ⟨(ST.out.oK.below hw9).keep fun k hk => setRow_other _ _ _ _ (Own.notK (ST.out.oK.below hw9) R9.out k hk)⟩
      have OH9 : Box (Own (w9.setRow b2 (kc ⟨32, sh256, vK, vH⟩)) w5.heap.size 44 vH 8 (H32.map u64v)) := ⟨(ST.out.oH.below hw9).keep fun k hk => setRow_other _ _ _ _ (Own.notK (ST.out.oH.below hw9) R9.out k hk)⟩
      have BL : Box (Below w.heap.size w (w9.setRow b2 (kc ⟨32, sh256, vK, vH⟩))) := ⟨below_setRow ((Upd.below HW5.out ST.out.upd (by intro i hi; simp at hi; subst hi; exact GB.out) HW5.out.size).trans (hw9.below.mono (Nat.le_trans HW5.out.size ST.out.upd.size))) G2.out _⟩
      have SZ : Box (w.heap.size ≤ w5.heap.size) := ⟨HW5.out.size⟩
      clear hw9 hF9
      refine wpList_storeK rfl (.tmp 2) (.tmp 56) rfl b2 ⟨32, sh256, vK, vH⟩ kz HONE.out R9.out rfl rfl ?_
      generalize w9.setRow b2 (kc ⟨32, sh256, vK, vH⟩) = wz at RK OK9 OH9 BL ⊢
      go_wp2_with fail
      refine bodyPost_ret (results_cell_row (p := 2) (ty := 42) rfl _ _ b2 42 (kc ⟨32, sh256, vK, vH⟩) (0, 0) _ rfl RK.out Try.underlying42 rfl (by kernel_rfl)) rfl ⟨vK, vH, rfl, OK9.out.base SZ.out, OH9.out.base SZ.out, NN.out.1, NN.out.2, BL.out⟩
end Go.Proofs.Ytbjapmhfnegmeaa.Big
