/- The document of sha2: a block. -/
import Derived.Test.YtbjapmhfnegmeaaBigE
import Derived.Test.YtbjapmhfnegmeaaShaB
import Derived.Test.YtbjapmhfnegmeaaOwn
import Derived.Deep.MidRow
namespace Go.Proofs.Ytbjapmhfnegmeaa.Big
set_option linter.unusedVariables false
open Go Go.RowKit
open Sha

section
variable {P : Program} {W : World} {S : List Nat} {T : (World → Prop) → List Nat → Act → Prop} {L : List (Oper × Kd)} {F : World → Prop} {N : List Nat} {a : Act} {o : Oper}
theorem gm_one {ty e : TypeId} (x : Operand) (ho : o.op = .buildSlice ty 1 #[(0, x)]) (v : Value) (hx : a.eval x = v) (hr : ∀ w, (Instr.buildSlice ty 1 #[(0, v)]).run P w = .ok (.slice (some ⟨w.heap.size, 0, none⟩) 1 1) (w.alloc (.cells #[v] e))) (hF : Stb F)
    (h : ∀ b, W.heap.size ≤ b → wpG P W S T L (fun w => F w ∧ w.heap[b]? = some (.cells #[v] e (0, 0))) ([b] ++ N) (a.put o.dst (.slice (some ⟨b, 0, none⟩) 1 1))) : wpG P W S T ((o, .cha) :: L) F N a :=
  gm_val fun w hw hFw => ⟨_, _, by
    subst hx
    unfold execOp
    simp only [ho, Sem.run_bind, List.map_toArray, List.map_cons, List.map_nil, hr, Result.andThen_ok, Sem.run_pure], Gr.alloc _ _, _, [w.heap.size], hF.new _ _, ⟨hF _ _ (Gr.alloc _ _) hFw, heap_alloc_new _ _⟩, fun b hb => by simp at hb; subst hb; simp, h _ hw.size⟩
/-- Three numbers out of the middle of a kind. -/
theorem gm_loadT (x : Operand) (ho : o.op = .load 39 x) (b off : Nat) (k : KV) (t : T3) (hb : W.heap[b]? = some (.cells (kc k) 42 (0, 0))) (hbS : b ∉ S) (hx : a.eval x = .pointer (some ⟨b, off, none⟩))
    (ht : ∀ j u, [iv t.a, iv t.b, iv t.c][j]? = some u → (kc k)[off + j]? = some u)
    (h : wpG Try.prog W S T L F N (a.put o.dst (.agg (tc t)))) : wpG Try.prog W S T ((o, .flo) :: L) F N a :=
  gm_flo _ (fun w hw => by
    unfold execOp
    simp only [ho, hx, Sem.run_bind, Sem.run_pure, Result.andThen_ok, run_loadAt_mid w b off 39 [iv t.a, iv t.b, iv t.c] _ (fun j u hj => (cellG hw hb hbS _).trans (ht j u hj)) Try.underlying39 rfl (by kernel_rfl)]
    rfl) h
end
theorem kc_A (k : KV) : ∀ j u, [iv k.s.a.a, iv k.s.a.b, iv k.s.a.c][j]? = some u → (kc k)[1 + j]? = some u
  | 0, _, h => h | 1, _, h => h | 2, _, h => h | _ + 3, _, h => by simp at h
theorem kc_B (k : KV) : ∀ j u, [iv k.s.b.a, iv k.s.b.b, iv k.s.b.c][j]? = some u → (kc k)[4 + j]? = some u
  | 0, _, h => h | 1, _, h => h | 2, _, h => h | _ + 3, _, h => by simp at h
theorem kc_C (k : KV) : ∀ j u, [iv k.s.c.a, iv k.s.c.b, iv k.s.c.c][j]? = some u → (kc k)[7 + j]? = some u
  | 0, _, h => h | 1, _, h => h | 2, _, h => h | _ + 3, _, h => by simp at h
theorem kc_D (k : KV) : ∀ j u, [iv k.s.d.a, iv k.s.d.b, iv k.s.d.c][j]? = some u → (kc k)[10 + j]? = some u
  | 0, _, h => h | 1, _, h => h | 2, _, h => h | _ + 3, _, h => by simp at h
theorem cellW {W w : World} (hw : GrS [] W w) {g j : Nat} {v : Value} (hg : g < W.heap.size) (h : W.cell? ⟨g, j, none⟩ = some v) : w.cell? ⟨g, j, none⟩ = some v :=
  (World.cell?_of_block (w := W) (hw.block g hg (by simp))).trans h
/-- The kind's box lies there; from B on alone memory has turned. -/
structure BSt (w : World) (B b : Nat) (k : KV) (wr : World) : Prop where
  bel : Below B w wr
  sz : B ≤ wr.heap.size
  kb : wr.heap[b]? = some (.cells (kc k) 42 (0, 0))
theorem BSt.drew {w wr : World} {B b : Nat} {k : KV} (h : BSt w B b k wr) : BSt w B b k wr.drew := ⟨h.bel.drew, h.sz, h.kb⟩
theorem BSt.gr {w wr w' : World} {B b : Nat} {k : KV} (h : BSt w B b k wr) (hg : Gr wr w') : BSt w B b k w' := ⟨h.bel.trans (hg.below.mono h.sz), Nat.le_trans h.sz hg.size, hg.block h.kb⟩
theorem own_ne {w : World} {B b n : Nat} {k : KV} {v : Value} {xs : List Value} (h : Own w B 44 v n xs) (hb : w.heap[b]? = some (.cells (kc k) 42 (0, 0))) : v.ownBlock ≠ some b := by
  intro he
  rcases h.2 with ⟨rfl, _⟩ | ⟨g, cap, cur, fr, rfl, _, hg, _⟩
  · simp [Value.ownBlock] at he
  · simp [Value.ownBlock] at he
    subst he
    rw [hb] at hg
    have := Option.some.inj hg
    injection this with _ h2 _
    exact absurd h2 (by decide)
theorem BSt.grown {w wr w' : World} {B b n : Nat} {k : KV} {v : Value} {xs : List Value} (h : BSt w B b k wr) (ho : Own wr B 44 v n xs) (hg : wr.grownBy w' v.ownBlock) (hb : Below B w w') (hs : B ≤ w'.heap.size) : BSt w B b k w' :=
  ⟨hb, hs, (hg.block b (Array.getElem?_eq_some_iff.1 h.kb).1 (Ne.symm (own_ne ho h.kb))).trans h.kb⟩
theorem map_at (L : List Nat) (j : Nat) (h : j < L.length) : (L.map u64v)[j]? = some (.int .u64 (L.getD j 0 : Nat)) := by
  rw [List.getElem?_map, List.getElem?_eq_getElem h, List.getD_eq_getElem?_getD, List.getElem?_eq_getElem h]; rfl
theorem v8c64_set (W k : Nat) (hk : k < 8) (A v : V8) (x : Nat) (hx : x = (A.list.getD k 0 + v.list.getD k 0) % 2 ^ W) :
    (v8c64 (mixV W k A v)).setIfInBounds k (.int .u64 (x : Nat)) = v8c64 (mixV W (k + 1) A v) := by
  subst hx
  match k, hk with
  | 0, _ => rfl
  | 1, _ => rfl
  | 2, _ => rfl
  | 3, _ => rfl
  | 4, _ => rfl
  | 5, _ => rfl
  | 6, _ => rfl
  | 7, _ => rfl
theorem mixV_at (W k : Nat) (hk : k < 8) (A v : V8) : (mixV W k A v).list.getD k 0 = A.list.getD k 0 := by
  match k, hk with
  | 0, _ => rfl
  | 1, _ => rfl
  | 2, _ => rfl
  | 3, _ => rfl
  | 4, _ => rfl
  | 5, _ => rfl
  | 6, _ => rfl
  | 7, _ => rfl
theorem plus_comm (W : Nat) (v u : V8) : plus W v u = plus W u v := by
  unfold plus; congr 2 <;> omega
theorem sml_lt {W x : Nat} (t : T3) (hx : x < 2 ^ W) : sml W x t < 2 ^ W :=
  Nat.xor_lt_two_pow (Nat.xor_lt_two_pow (rotr_lt hx) (rotr_lt hx)) (Nat.lt_of_le_of_lt (Nat.div_le_self _ _) hx)
theorem big_lt {W x : Nat} (t : T3) (hx : x < 2 ^ W) : Sha.big W x t < 2 ^ W :=
  Nat.xor_lt_two_pow (Nat.xor_lt_two_pow (rotr_lt hx) (rotr_lt hx)) (rotr_lt hx)
theorem add4 {W : Nat} (hW : W = 32 ∨ W = 64) (a b c d : Nat) : (((a + b) % 18446744073709551616 + c) % 18446744073709551616 + d) % 18446744073709551616 % 2 ^ W = (a + b + c + d) % 2 ^ W := by
  rcases hW with rfl | rfl <;> omega
theorem add5 {W : Nat} (hW : W = 32 ∨ W = 64) (a b c d e : Nat) : ((((a + b) % 18446744073709551616 + c) % 18446744073709551616 + d) % 18446744073709551616 + e) % 18446744073709551616 % 2 ^ W = (a + b + c + d + e) % 2 ^ W := by
  rcases hW with rfl | rfl <;> omega
theorem add2 {W : Nat} (hW : W = 32 ∨ W = 64) (a b : Nat) : (a + b) % 18446744073709551616 % 2 ^ W = (a + b) % 2 ^ W := by
  rcases hW with rfl | rfl <;> omega
theorem not_and {W : Nat} (hW : W = 32 ∨ W = 64) (e g : Nat) (he : e < 2 ^ W) (hg : g < 2 ^ W) : (2 ^ 64 - 1 - e) &&& g = (2 ^ W - 1 - e) &&& g := by
  rcases hW with rfl | rfl
  · apply Nat.eq_of_testBit_eq
    intro i
    have he64 : e < 2 ^ 64 := Nat.lt_trans he (by decide)
    rw [Nat.testBit_and, Nat.testBit_and, show 2 ^ 64 - 1 - e = 2 ^ 64 - (e + 1) from by omega, show 2 ^ 32 - 1 - e = 2 ^ 32 - (e + 1) from by omega, Nat.testBit_two_pow_sub_succ he, Nat.testBit_two_pow_sub_succ he64]
    by_cases hi : i < 32
    · have : i < 64 := by omega
      simp [hi, this]
    · have : g.testBit i = false := Nat.testBit_lt_two_pow (Nat.lt_of_lt_of_le hg (Nat.pow_le_pow_right (by omega) (by omega)))
      simp [this]
  · rfl
theorem wrapS (a b : Nat) : ∃ y : Nat, y = (a + b) % 18446744073709551616 ∧ IntKind.u64.wrap ((a : Int) + (b : Int)) = (y : Int) := ⟨_, rfl, by rw [IntKind.wrap_u64]; omega⟩
theorem M_lt (a : Nat) : a % 18446744073709551616 < 18446744073709551616 := Nat.mod_lt _ (by decide)

set_option maxRecDepth 100000 in
set_option maxHeartbeats 8000000 in
theorem block_any (k : KV) (hW : k.W = 32 ∨ k.W = 64) (hs : k.s.Ok k.W) (ks : List Nat) (hks : ∀ x ∈ ks, x < 2 ^ 64) (n : Nat) (hn : ks.length = n) (hn1 : 16 ≤ n) (hn2 : n ≤ 80)
    (gK capK : Nat) (hK : k.K = .slice (some ⟨gK, 0, none⟩) n capK) (v : V8) (hv : v.Ok k.W) (gs cs : Nat) (l : List Nat) (hl : l.length = 16) (hlb : ∀ x ∈ l, x < 2 ^ k.W) (x : Value) (B : Nat) (w : World)
    (hB : B ≤ w.heap.size) (hgK : gK < B) (hgs : gs < B) (hKc : ∀ j, j < n → w.cell? ⟨gK, j, none⟩ = some (.int .u64 (ks.getD j 0 : Nat)))
    (hsc : ∀ j, j < 8 → w.cell? ⟨gs, j, none⟩ = some (.int .u64 (v.list.getD j 0 : Nat))) (hx : Own w B 44 x 16 (l.map u64v)) (hxn : x ≠ .slice none 0 0) :
    Calls Try.prog 16 #[.agg (kc k), .slice (some ⟨gs, 0, none⟩) 8 cs, x] w fun e w' => ∃ g, e = .returned (.slice (some ⟨g, 0, none⟩) 8 8) ∧ w.heap.size ≤ g ∧ g < w'.heap.size ∧
      (∀ j, j < 8 → w'.cell? ⟨g, j, none⟩ = some (.int .u64 ((blk k.W k.s ks v l).list.getD j 0 : Nat))) ∧ Below B w w' := by
  obtain ⟨b, hb⟩ : ∃ b, b = w.heap.size := ⟨_, rfl⟩
  have hBb : B ≤ b := by omega
  have st0 : Box (BSt w B b k (w.alloc (.cells (kc k) 42))) := ⟨⟨(Below.refl _ _).alloc hB _, by simp; omega, by rw [hb]; exact heap_alloc_new w _⟩⟩
  have OW0 : Box (Own (w.alloc (.cells (kc k) 42)) B 44 x 16 ((sched k.W k.s 0 l).map u64v)) := ⟨hx.alloc _⟩
  have HKC := Box.mk hKc; have HSC := Box.mk hsc; have HBb := Box.mk hBb; have HGK := Box.mk hgK; have HGS := Box.mk hgs; have HXN := Box.mk hxn; have HLB := Box.mk hlb; have HL := Box.mk hl; have HS := Box.mk hs
  have HKS := Box.mk hks; have HN := Box.mk hn; have HV := Box.mk hv; have HEB := Box.mk hb
  have hn1I : (16 : Int) ≤ (n : Int) := by omega
  clear hKc hsc hBb hgK hgs hxn hlb hl hs hx hB hks hn hv
  go_enter Try.func16, Try.ntmps16
  go_upto_region 1 with (fail)
  rw [← hb]
  clear hb
  generalize w.alloc (.cells (kc k) 42) = w0 at st0 OW0 ⊢
  go_wp2_with fail
  go_loopw [2, 7] (fun x i wr => ∃ t : Nat, 16 ≤ t ∧ t ≤ n ∧ i = .int .i64 t ∧ Own wr B 44 x t ((sched k.W k.s (t - 16) l).map u64v) ∧ x ≠ .slice none 0 0 ∧ BSt w B b k wr) (fun _ i _ => n - (intOf i).toNat)
  case atStart => exact ⟨16, by omega, hn1, rfl, OW0.out, HXN.out, st0.out⟩
  case round =>
    clear OW0 st0 HXN
    obtain ⟨t, ht16, htn, rfl, hown, hne, st⟩ := hrel
    obtain ⟨g, cap, rfl, hBg, hcell, hglt, htc⟩ := hown.cells hne
    have OW := Box.mk hown; have ST := Box.mk st
    have hLL := sched_len k.W k.s (t - 16) l
    have hLT := sched_lt k.W k.s (t - 16) l HLB.out
    have hKK : wr.cell? ⟨b, 13, none⟩ = some (.slice (some ⟨gK, 0, none⟩) n capK) := by rw [cell_of_row _ _ _ _ _ _ st.kb, ← hK]; rfl
    have GL := Box.mk hglt
    clear hown hne st hglt htc
    by_cases hlt : t < n
    · have hnx := sched_succ k.W k.s (t - 16) l
      rw [show t - 16 + 1 = t + 1 - 16 by omega] at hnx
      generalize sched k.W k.s (t - 16) l = L at OW hLL hLT hnx hcell
      have hLL : L.length = t := by have := HL.out; omega
      have hltI : (t : Int) < (n : Int) := by omega
      have hl := pw_le hW
      obtain ⟨p2, hp2⟩ : ∃ p, p = t - 2 := ⟨_, rfl⟩
      have hpw2 : IntKind.i64.wrap ((t : Int) - 2) = (p2 : Int) := by rw [IntKind.wrap_i64]; omega
      have hpl2 : (p2 : Int) < (t : Int) := by omega
      have hc2 := hcell p2 _ (map_at L p2 (by omega))
      have ly2 := getD_lt hLT p2
      obtain ⟨p7, hp7⟩ : ∃ p, p = t - 7 := ⟨_, rfl⟩
      have hpw7 : IntKind.i64.wrap ((t : Int) - 7) = (p7 : Int) := by rw [IntKind.wrap_i64]; omega
      have hpl7 : (p7 : Int) < (t : Int) := by omega
      have hc7 := hcell p7 _ (map_at L p7 (by omega))
      have ly7 := getD_lt hLT p7
      obtain ⟨p15, hp15⟩ : ∃ p, p = t - 15 := ⟨_, rfl⟩
      have hpw15 : IntKind.i64.wrap ((t : Int) - 15) = (p15 : Int) := by rw [IntKind.wrap_i64]; omega
      have hpl15 : (p15 : Int) < (t : Int) := by omega
      have hc15 := hcell p15 _ (map_at L p15 (by omega))
      have ly15 := getD_lt hLT p15
      obtain ⟨p16, hp16⟩ : ∃ p, p = t - 16 := ⟨_, rfl⟩
      have hpw16 : IntKind.i64.wrap ((t : Int) - 16) = (p16 : Int) := by rw [IntKind.wrap_i64]; omega
      have hpl16 : (p16 : Int) < (t : Int) := by omega
      have hc16 := hcell p16 _ (map_at L p16 (by omega))
      have ly16 := getD_lt hLT p16
      unfold nextW at hnx
      rw [hLL, ← hp2, ← hp7, ← hp15, ← hp16] at hnx
      generalize L.getD p2 0 = y2 at hc2 ly2 hnx
      generalize L.getD p7 0 = y7 at hc7 ly7 hnx
      generalize L.getD p15 0 = y15 at hc15 ly15 hnx
      generalize L.getD p16 0 = y16 at hc16 ly16 hnx
      have C2 := Box.mk (two_any k hW y2 k.s.d ly2 (Nat.le_of_lt HS.out.d.a.2) (Nat.le_of_lt HS.out.d.b.2) (Nat.le_of_lt HS.out.d.c.2))
      have C15 := Box.mk (two_any k hW y15 k.s.c ly15 (Nat.le_of_lt HS.out.c.a.2) (Nat.le_of_lt HS.out.c.b.2) (Nat.le_of_lt HS.out.c.c.2))
      have HKs := Box.mk HS.out
      generalize sml k.W y2 k.s.d = m2 at C2 hnx
      generalize sml k.W y15 k.s.c = m15 at C15 hnx
      rw [← add4 hW] at hnx
      obtain ⟨a1, ha1, hw1⟩ := wrapS m2 y7
      rw [← ha1] at hnx
      obtain ⟨a2, ha2, hw2⟩ := wrapS a1 m15
      rw [← ha2] at hnx
      obtain ⟨a3, ha3, hw3⟩ := wrapS a2 y16
      rw [← ha3] at hnx
      have L3 : Box (a3 < 18446744073709551616) := ⟨by rw [ha3]; exact M_lt _⟩
      obtain ⟨z, hz⟩ : ∃ z, z = a3 % 2 ^ k.W := ⟨_, rfl⟩
      rw [← hz] at hnx
      have HZ := Box.mk hz; have HNX := Box.mk hnx
      have HC2 := Box.mk hc2; have HC7 := Box.mk hc7; have HC15 := Box.mk hc15; have HC16 := Box.mk hc16; have HP := Box.mk hLL
      clear ha1 ha2 ha3 hz hnx ly2 ly7 ly15 ly16 hl hLL hLT hcell hp2 hp7 hp15 hp16 hc2 hc7 hc15 hc16 hBg
      go_upto_region 4 with (fail)
      have HB : Box (wr.drew.heap[b]? = some (.cells (kc k) 42 (0, 0))) := ⟨ST.out.kb⟩
      refine wp_region_mix 35 [.flo, .flo, .flo, .flo, .flo, .flo, .flo, .flo, .flo, .flo, .cha, .flo, .flo, .flo, .flo, .flo, .flo, .flo, .flo, .flo, .flo, .flo, .flo, .flo, .flo, .cha, .flo, .flo, .flo, .flo, .flo, .flo, .flo, .cha, .cha] (by kernel_rfl) (by kernel_rfl) rfl ?_
      simp only [List.take, List.zip, List.zipWith]
      try go_frame
      refine gm_flo (.slice (some ⟨g, 0, none⟩) t cap) (fun w1 hw1 => ?_) ?_
      case refine_1 =>
        go_simp
      try go_frame
      refine gm_loadK (.tmp 3) rfl b k HB.out (by simp) rfl ?_
      try go_frame
      refine gm_loadK (.tmp 3) rfl b k HB.out (by simp) rfl ?_
      try go_frame
      refine gm_flo (.slice (some ⟨g, 0, none⟩) t cap) (fun w1 hw1 => ?_) ?_
      case refine_1 =>
        go_simp
      try go_frame
      refine gm_flo (.int .i64 (t : Nat)) (fun w1 hw1 => ?_) ?_
      case refine_1 =>
        go_simp
      try go_frame
      refine gm_flo (.int .i64 (p2 : Nat)) (fun w1 hw1 => ?_) ?_
      case refine_1 =>
        go_simp
      try go_frame
      refine gm_flo (.pointer (some ⟨g, p2, none⟩)) (fun w1 hw1 => ?_) ?_
      case refine_1 =>
        go_simp
      try go_frame
      refine gm_flo (.int .u64 (y2 : Nat)) (fun w1 hw1 => ?_) ?_
      case refine_1 =>
        have hc := cellW hw1 GL.out HC2.out
        go_simp
      try go_frame
      refine gm_flo (.pointer (some ⟨b, 10, none⟩)) (fun w1 hw1 => ?_) ?_
      case refine_1 =>
        go_simp
      try go_frame
      refine gm_loadT (.tmp 36) rfl b 10 k k.s.d HB.out (by simp) rfl (kc_D k) ?_
      try go_frame
      refine gm_call [.agg (kc k), .int .u64 (y2 : Nat), .agg (tc k.s.d)] (by kernel_rfl) rfl rfl Stb.tt (fun w1 hw1 hF1 => (C2.out w1).mono ?_)
      rintro e w2 ⟨rfl, hw2⟩
      refine ⟨_, rfl, hw2, ?_⟩
      clear hw1 hF1 w1 hw2 w2
      try go_frame
      refine gm_flo (.slice (some ⟨g, 0, none⟩) t cap) (fun w1 hw1 => ?_) ?_
      case refine_1 =>
        go_simp
      try go_frame
      refine gm_flo (.int .i64 (t : Nat)) (fun w1 hw1 => ?_) ?_
      case refine_1 =>
        go_simp
      try go_frame
      refine gm_flo (.int .i64 (p7 : Nat)) (fun w1 hw1 => ?_) ?_
      case refine_1 =>
        go_simp
      try go_frame
      refine gm_flo (.pointer (some ⟨g, p7, none⟩)) (fun w1 hw1 => ?_) ?_
      case refine_1 =>
        go_simp
      try go_frame
      refine gm_flo (.int .u64 (y7 : Nat)) (fun w1 hw1 => ?_) ?_
      case refine_1 =>
        have hc := cellW hw1 GL.out HC7.out
        go_simp
      try go_frame
      refine gm_flo (.int .u64 (a1 : Nat)) (fun w1 hw1 => ?_) ?_
      case refine_1 =>
        go_simp
      try go_frame
      refine gm_loadK (.tmp 3) rfl b k HB.out (by simp) rfl ?_
      try go_frame
      refine gm_flo (.slice (some ⟨g, 0, none⟩) t cap) (fun w1 hw1 => ?_) ?_
      case refine_1 =>
        go_simp
      try go_frame
      refine gm_flo (.int .i64 (t : Nat)) (fun w1 hw1 => ?_) ?_
      case refine_1 =>
        go_simp
      try go_frame
      refine gm_flo (.int .i64 (p15 : Nat)) (fun w1 hw1 => ?_) ?_
      case refine_1 =>
        go_simp
      try go_frame
      refine gm_flo (.pointer (some ⟨g, p15, none⟩)) (fun w1 hw1 => ?_) ?_
      case refine_1 =>
        go_simp
      try go_frame
      refine gm_flo (.int .u64 (y15 : Nat)) (fun w1 hw1 => ?_) ?_
      case refine_1 =>
        have hc := cellW hw1 GL.out HC15.out
        go_simp
      try go_frame
      refine gm_flo (.pointer (some ⟨b, 7, none⟩)) (fun w1 hw1 => ?_) ?_
      case refine_1 =>
        go_simp
      try go_frame
      refine gm_loadT (.tmp 51) rfl b 7 k k.s.c HB.out (by simp) rfl (kc_C k) ?_
      try go_frame
      refine gm_call [.agg (kc k), .int .u64 (y15 : Nat), .agg (tc k.s.c)] (by kernel_rfl) rfl rfl Stb.tt (fun w1 hw1 hF1 => (C15.out w1).mono ?_)
      rintro e w2 ⟨rfl, hw2⟩
      refine ⟨_, rfl, hw2, ?_⟩
      clear hw1 hF1 w1 hw2 w2
      try go_frame
      refine gm_flo (.int .u64 (a2 : Nat)) (fun w1 hw1 => ?_) ?_
      case refine_1 =>
        go_simp
      try go_frame
      refine gm_flo (.slice (some ⟨g, 0, none⟩) t cap) (fun w1 hw1 => ?_) ?_
      case refine_1 =>
        go_simp
      try go_frame
      refine gm_flo (.int .i64 (t : Nat)) (fun w1 hw1 => ?_) ?_
      case refine_1 =>
        go_simp
      try go_frame
      refine gm_flo (.int .i64 (p16 : Nat)) (fun w1 hw1 => ?_) ?_
      case refine_1 =>
        go_simp
      try go_frame
      refine gm_flo (.pointer (some ⟨g, p16, none⟩)) (fun w1 hw1 => ?_) ?_
      case refine_1 =>
        go_simp
      try go_frame
      refine gm_flo (.int .u64 (y16 : Nat)) (fun w1 hw1 => ?_) ?_
      case refine_1 =>
        have hc := cellW hw1 GL.out HC16.out
        go_simp
      try go_frame
      refine gm_flo (.int .u64 (a3 : Nat)) (fun w1 hw1 => ?_) ?_
      case refine_1 =>
        go_simp
      try go_frame
      refine gm_call [.agg (kc k), .int .u64 (a3 : Nat)] (by kernel_rfl) rfl rfl Stb.tt (fun w1 hw1 hF1 => (word_any k hW a3 L3.out w1).mono ?_)
      rintro e w2 ⟨rfl, hw2⟩
      refine ⟨_, rfl, hw2, ?_⟩
      clear hw1 hF1 w1 hw2 w2
      try go_frame
      rw [← HZ.out]
      refine gm_one (e := 44) (.tmp 61) rfl (.int .u64 (z : Nat)) rfl (fun _ => by kernel_rfl) Stb.tt (fun b1 hb1 => ?_)
      try go_frame
      refine gm_nil ?_
      intro w9 hw9 hF9
      simp only [List.drop]
      try go_frame
      have ST9 := ST.out.drew.gr hw9
      at_builtin
      refine wpList_app1 (w0 := w) rfl (.tmp 28) (.tmp 62) 40 rfl B 44 (.int .u64 0) 8 Try.underlying40 (by kernel_rfl) rfl (.slice (some ⟨g, 0, none⟩) t cap) t (L.map u64v) rfl (OW.out.drew.below hw9.below) ST9.bel ST9.sz b1 (.int .u64 (z : Nat)) rfl ((cell_of_row _ _ _ _ _ _ hF9.2).trans rfl) rfl (by omega) (by omega) ?_
      intro v' w' o' b' s' gr' ne'
      have STN := Box.mk (ST9.grown (OW.out.drew.below hw9.below) gr' b' s')
      have ON : Box (Own w' B 44 v' (t + 1) ((sched k.W k.s (t + 1 - 16) l).map u64v)) := ⟨by rw [HNX.out, List.map_append]; exact o'⟩
      have NE := Box.mk ne'
      clear ST9 o' b' s' gr' ne' hF9 hw9
      go_wp2_with fail
      exact ⟨⟨t + 1, by omega, by omega, by go_num, ON.out, NE.out, STN.out⟩, by simp [intOf]; omega⟩
    · obtain rfl : t = n := by omega
      clear hlt ht16 htn
      generalize hLLe : sched k.W k.s (t - 16) l = L at OW hLL hLT hcell
      have hLL : L.length = t := by have := HL.out; omega
      have sc0 : wr.cell? ⟨gs, 0, none⟩ = some (.int .u64 (v.a : Nat)) := (ST.out.bel.cell (p := ⟨gs, 0, none⟩) HGS.out).trans (HSC.out 0 (by decide))
      have sc1 : wr.cell? ⟨gs, 1, none⟩ = some (.int .u64 (v.b : Nat)) := (ST.out.bel.cell (p := ⟨gs, 1, none⟩) HGS.out).trans (HSC.out 1 (by decide))
      have sc2 : wr.cell? ⟨gs, 2, none⟩ = some (.int .u64 (v.c : Nat)) := (ST.out.bel.cell (p := ⟨gs, 2, none⟩) HGS.out).trans (HSC.out 2 (by decide))
      have sc3 : wr.cell? ⟨gs, 3, none⟩ = some (.int .u64 (v.d : Nat)) := (ST.out.bel.cell (p := ⟨gs, 3, none⟩) HGS.out).trans (HSC.out 3 (by decide))
      have sc4 : wr.cell? ⟨gs, 4, none⟩ = some (.int .u64 (v.e : Nat)) := (ST.out.bel.cell (p := ⟨gs, 4, none⟩) HGS.out).trans (HSC.out 4 (by decide))
      have sc5 : wr.cell? ⟨gs, 5, none⟩ = some (.int .u64 (v.f : Nat)) := (ST.out.bel.cell (p := ⟨gs, 5, none⟩) HGS.out).trans (HSC.out 5 (by decide))
      have sc6 : wr.cell? ⟨gs, 6, none⟩ = some (.int .u64 (v.g : Nat)) := (ST.out.bel.cell (p := ⟨gs, 6, none⟩) HGS.out).trans (HSC.out 6 (by decide))
      have sc7 : wr.cell? ⟨gs, 7, none⟩ = some (.int .u64 (v.h : Nat)) := (ST.out.bel.cell (p := ⟨gs, 7, none⟩) HGS.out).trans (HSC.out 7 (by decide))
      have HXC : Box (∀ j, j < t → wr.cell? ⟨g, j, none⟩ = some (.int .u64 (L.getD j 0 : Nat))) := ⟨fun j hj => hcell j _ (map_at L j (by omega))⟩
      have HKC2 : Box (∀ j, j < t → wr.cell? ⟨gK, j, none⟩ = some (.int .u64 (ks.getD j 0 : Nat))) := ⟨fun j hj => (ST.out.bel.cell (p := ⟨gK, j, none⟩) HGK.out).trans (HKC.out j hj)⟩
      have HSC2 : Box (∀ j, j < 8 → wr.cell? ⟨gs, j, none⟩ = some (.int .u64 (v.list.getD j 0 : Nat))) := ⟨fun j hj => (ST.out.bel.cell (p := ⟨gs, j, none⟩) HGS.out).trans (HSC.out j hj)⟩
      have HLT := Box.mk hLT; have HLL := Box.mk hLL; have HLE := Box.mk hLLe; have HBG := Box.mk hBg
      have GKL : Box (gK < wr.heap.size) := ⟨Nat.lt_of_lt_of_le HGK.out ST.out.sz⟩
      have GSL : Box (gs < wr.heap.size) := ⟨Nat.lt_of_lt_of_le HGS.out ST.out.sz⟩
      have HSCw := Box.mk HSC.out
      clear hLT hLL hLLe hBg hcell OW HKC HSC
      go_upto_region 5 with (fail)
      go_quiet (fail)
      generalize nq = mq
      go_upto_region 6 with (fail)
      go_quiet (fail)
      clear sc0 sc1 sc2 sc3 sc4 sc5 sc6 sc7 hKK
      go_wp2_with fail
      obtain ⟨wo, rfl⟩ : ∃ wo : World, wo = wr := ⟨_, rfl⟩
      have GR0 : Box (Gr wo ((wo.drewN mq).drewN nq)) := ⟨(fun h => (⟨h.os, h.tape, h.output, h.size, fun i hi => h.block i hi (by simp)⟩ : Below wo.heap.size wo _)) (((Upd.refl [] wo).drewN mq).trans ((Upd.refl [] _).drewN nq))⟩
      go_loopw [8, 9, 10, 11, 12, 13, 14, 15, 16] (fun xa xb xc xd xe xf xg xh i wx => ∃ j : Nat, j ≤ t ∧ i = .int .i64 j ∧ ∃ u : V8, u = rnds k.W k.s (ks.take j) (L.take j) v ∧ u.Ok k.W ∧ xa = .int .u64 (u.a : Nat) ∧ xb = .int .u64 (u.b : Nat) ∧ xc = .int .u64 (u.c : Nat) ∧ xd = .int .u64 (u.d : Nat) ∧ xe = .int .u64 (u.e : Nat) ∧ xf = .int .u64 (u.f : Nat) ∧ xg = .int .u64 (u.g : Nat) ∧ xh = .int .u64 (u.h : Nat) ∧ Gr wo wx) (fun _ _ _ _ _ _ _ _ i _ => t - (intOf i).toNat)
      case atStart => exact ⟨0, by omega, rfl, v, by simp [rnds], HV.out, rfl, rfl, rfl, rfl, rfl, rfl, rfl, rfl, GR0.out⟩
      case round =>
        clear GR0
        obtain ⟨wx, rfl⟩ : ∃ wx : World, wx = wr := ⟨_, rfl⟩
        obtain ⟨j, hj, rfl, u, hu, hok, rfl, rfl, rfl, rfl, rfl, rfl, rfl, rfl, gr⟩ := hrel
        have GR := Box.mk gr
        have HB : Box (wx.heap[b]? = some (.cells (kc k) 42 (0, 0))) := ⟨gr.block ST.out.kb⟩
        have hKK : wx.cell? ⟨b, 13, none⟩ = some (.slice (some ⟨gK, 0, none⟩) t capK) := by rw [cell_of_row _ _ _ _ _ _ HB.out, ← hK]; rfl
        have HOK := Box.mk hok; have HU := Box.mk hu
        clear gr hok hu
        by_cases hlt : j < t
        · have hstep := rnds_step k.W k.s ks L v j (by have := HN.out; omega) (by have := HLL.out; omega)
          rw [← HU.out] at hstep
          have hxc := HXC.out j hlt; have hkc := HKC2.out j hlt
          have hkl : ks.getD j 0 < 2 ^ 64 := getD_lt HKS.out j
          generalize ks.getD j 0 = kk at hkc hkl hstep
          generalize L.getD j 0 = xx at hxc hstep
          have hltI : (j : Int) < (t : Int) := by omega
          have hl := pw_le hW
          have ok := HOK.out
          have o1 : u.a < 18446744073709551616 := Nat.lt_of_lt_of_le ok.a hl
          have o2 : u.b < 18446744073709551616 := Nat.lt_of_lt_of_le ok.b hl
          have o3 : u.c < 18446744073709551616 := Nat.lt_of_lt_of_le ok.c hl
          have o5 : u.e < 18446744073709551616 := Nat.lt_of_lt_of_le ok.e hl
          have o6 : u.f < 18446744073709551616 := Nat.lt_of_lt_of_le ok.f hl
          have o7 : u.g < 18446744073709551616 := Nat.lt_of_lt_of_le ok.g hl
          have CE := Box.mk (three_any k hW u.e k.s.b ok.e (Nat.le_of_lt HS.out.b.a.2) (Nat.le_of_lt HS.out.b.b.2) (Nat.le_of_lt HS.out.b.c.2))
          have CA := Box.mk (three_any k hW u.a k.s.a ok.a (Nat.le_of_lt HS.out.a.a.2) (Nat.le_of_lt HS.out.a.b.2) (Nat.le_of_lt HS.out.a.c.2))
          obtain ⟨O, hO⟩ : ∃ O, O = one k.W k.s u kk xx := ⟨_, rfl⟩
          obtain ⟨T2, hT2⟩ : ∃ O, O = two k.W k.s u := ⟨_, rfl⟩
          have hR : round k.W k.s u kk xx = ⟨(O + T2) % 2 ^ k.W, u.a, u.b, u.c, (u.d + O) % 2 ^ k.W, u.e, u.f, u.g⟩ := by rw [hO, hT2]; rfl
          rw [hR] at hstep
          have hok2 := round_ok k.W k.s u kk xx ok
          rw [hR] at hok2
          unfold one at hO; unfold two at hT2
          generalize Sha.big k.W u.e k.s.b = m1 at CE hO
          generalize Sha.big k.W u.a k.s.a = m3 at CA hT2
          rw [← not_and hW u.e u.g ok.e ok.g, ← add5 hW] at hO
          rw [← add2 hW] at hT2
          rw [← add2 hW O T2, ← add2 hW u.d O] at hstep hok2
          have ba1 := bits64_and u.e u.f o5 o6
          have bn := bits64_not u.e o5
          have hne : 2 ^ 64 - 1 - u.e < 18446744073709551616 := by omega
          obtain ⟨ne, hne2⟩ : ∃ ne, ne = 2 ^ 64 - 1 - u.e := ⟨_, rfl⟩
          rw [← hne2] at bn hO hne
          have bn2 : bits BinOp.xor IntKind.u64 (if IntKind.u64.signed = true then -1 else IntKind.u64.max) (u.e : Int) = (ne : Int) := bn
          have ba2 := bits64_and ne u.g hne o7
          have p1l : u.e &&& u.f < 18446744073709551616 := Nat.and_lt_two_pow (n := 64) _ o6
          have p2l : ne &&& u.g < 18446744073709551616 := Nat.and_lt_two_pow (n := 64) _ o7
          obtain ⟨p1, hp1⟩ : ∃ p, p = u.e &&& u.f := ⟨_, rfl⟩
          obtain ⟨p2, hp2⟩ : ∃ p, p = ne &&& u.g := ⟨_, rfl⟩
          rw [← hp1] at ba1 p1l hO
          rw [← hp2] at ba2 p2l hO
          have bx1 := u64_xor_nat p1 p2 p1l p2l
          obtain ⟨p3, hp3⟩ : ∃ p, p = p1 ^^^ p2 := ⟨_, rfl⟩
          rw [← hp3] at bx1 hO
          obtain ⟨q1, hq1, hw1⟩ := wrapS u.h m1
          rw [← hq1] at hO
          obtain ⟨q2, hq2, hw2⟩ := wrapS q1 p3
          rw [← hq2] at hO
          obtain ⟨q3, hq3, hw3⟩ := wrapS q2 kk
          rw [← hq3] at hO
          obtain ⟨q4, hq4, hw4⟩ := wrapS q3 xx
          rw [← hq4] at hO
          have L4 : Box (q4 < 18446744073709551616) := ⟨by rw [hq4]; exact M_lt _⟩
          have bb1 := bits64_and u.a u.b o1 o2
          have bb2 := bits64_and u.a u.c o1 o3
          have bb3 := bits64_and u.b u.c o2 o3
          have r1l : u.a &&& u.b < 18446744073709551616 := Nat.and_lt_two_pow (n := 64) _ o2
          have r2l : u.a &&& u.c < 18446744073709551616 := Nat.and_lt_two_pow (n := 64) _ o3
          have r4l : u.b &&& u.c < 18446744073709551616 := Nat.and_lt_two_pow (n := 64) _ o3
          obtain ⟨r1, hr1⟩ : ∃ p, p = u.a &&& u.b := ⟨_, rfl⟩
          obtain ⟨r2, hr2⟩ : ∃ p, p = u.a &&& u.c := ⟨_, rfl⟩
          obtain ⟨r4, hr4⟩ : ∃ p, p = u.b &&& u.c := ⟨_, rfl⟩
          rw [← hr1] at bb1 r1l hT2
          rw [← hr2] at bb2 r2l hT2
          rw [← hr4] at bb3 r4l hT2
          have bx2 := u64_xor_nat r1 r2 r1l r2l
          have r3l : r1 ^^^ r2 < 18446744073709551616 := Nat.xor_lt_two_pow (n := 64) r1l r2l
          obtain ⟨r3, hr3⟩ : ∃ p, p = r1 ^^^ r2 := ⟨_, rfl⟩
          rw [← hr3] at bx2 r3l hT2
          have bx3 := u64_xor_nat r3 r4 r3l r4l
          obtain ⟨r5, hr5⟩ : ∃ p, p = r3 ^^^ r4 := ⟨_, rfl⟩
          rw [← hr5] at bx3 hT2
          obtain ⟨q5, hq5, hw5⟩ := wrapS m3 r5
          rw [← hq5] at hT2
          have L5 : Box (q5 < 18446744073709551616) := ⟨by rw [hq5]; exact M_lt _⟩
          obtain ⟨q6, hq6, hw6⟩ := wrapS u.d O
          obtain ⟨q7, hq7, hw7⟩ := wrapS O T2
          rw [← hq6, ← hq7] at hstep hok2
          have L6 : Box (q6 < 18446744073709551616) := ⟨by rw [hq6]; exact M_lt _⟩
          have L7 : Box (q7 < 18446744073709551616) := ⟨by rw [hq7]; exact M_lt _⟩
          obtain ⟨z6, hz6⟩ : ∃ z, z = q6 % 2 ^ k.W := ⟨_, rfl⟩
          obtain ⟨z7, hz7⟩ : ∃ z, z = q7 % 2 ^ k.W := ⟨_, rfl⟩
          rw [← hz6, ← hz7] at hstep hok2
          have HO := Box.mk hO; have HT2 := Box.mk hT2; have HZ6 := Box.mk hz6; have HZ7 := Box.mk hz7; have HST := Box.mk hstep; have HOK2 := Box.mk hok2; have HXx := Box.mk hxc; have HKx := Box.mk hkc
          clear hO hT2 hR hstep hok2 hxc hkc hkl hl ok o1 o2 o3 o5 o6 o7 hne hne2 p1l p2l hp1 hp2 hp3 hq1 hq2 hq3 hq4 r1l r2l r3l r4l hr1 hr2 hr3 hr4 hr5 hq5 hq6 hq7 hz6 hz7 HU HOK
          go_upto_region 10 with (fail)
          have HB2 : Box (wx.drew.heap[b]? = some (.cells (kc k) 42 (0, 0))) := ⟨HB.out⟩
          have GRd : Box (Gr wo wx.drew) := ⟨GR.out.trans (show Gr wx wx.drew from (Below.refl _ _).drew)⟩
          clear HB GR
          refine wp_region_mix 29 [.flo, .flo, .flo, .flo, .flo, .flo, .cha, .flo, .flo, .flo, .flo, .flo, .flo, .flo, .flo, .flo, .flo, .flo, .flo, .flo, .flo, .flo, .flo, .flo, .flo, .flo, .flo, .flo, .cha] (by kernel_rfl) (by kernel_rfl) rfl ?_
          simp only [List.take, List.zip, List.zipWith]
          try go_frame
          refine gm_loadK (.tmp 3) rfl b k HB2.out (by simp) rfl ?_
          try go_frame
          refine gm_flo (.int .u64 (u.h : Nat)) (fun w1 hw1 => ?_) ?_
          case refine_1 =>
            go_simp
          try go_frame
          refine gm_loadK (.tmp 3) rfl b k HB2.out (by simp) rfl ?_
          try go_frame
          refine gm_flo (.int .u64 (u.e : Nat)) (fun w1 hw1 => ?_) ?_
          case refine_1 =>
            go_simp
          try go_frame
          refine gm_flo (.pointer (some ⟨b, 4, none⟩)) (fun w1 hw1 => ?_) ?_
          case refine_1 =>
            go_simp
          try go_frame
          refine gm_loadT (.tmp 99) rfl b 4 k k.s.b HB2.out (by simp) rfl (kc_B k) ?_
          try go_frame
          refine gm_call [.agg (kc k), .int .u64 (u.e : Nat), .agg (tc k.s.b)] (by kernel_rfl) rfl rfl Stb.tt (fun w1 hw1 hF1 => (CE.out w1).mono ?_)
          rintro e w2 ⟨rfl, hw2⟩
          refine ⟨_, rfl, hw2, ?_⟩
          clear hw1 hF1 w1 hw2 w2
          try go_frame
          refine gm_flo (.int .u64 (q1 : Nat)) (fun w1 hw1 => ?_) ?_
          case refine_1 =>
            go_simp
          try go_frame
          refine gm_flo (.int .u64 (u.e : Nat)) (fun w1 hw1 => ?_) ?_
          case refine_1 =>
            go_simp
          try go_frame
          refine gm_flo (.int .u64 (u.f : Nat)) (fun w1 hw1 => ?_) ?_
          case refine_1 =>
            go_simp
          try go_frame
          refine gm_flo (.int .u64 (p1 : Nat)) (fun w1 hw1 => ?_) ?_
          case refine_1 =>
            go_simp
          try go_frame
          refine gm_flo (.int .u64 (u.e : Nat)) (fun w1 hw1 => ?_) ?_
          case refine_1 =>
            go_simp
          try go_frame
          refine gm_flo (.int .u64 (ne : Nat)) (fun w1 hw1 => ?_) ?_
          case refine_1 =>
            go_simp
          try go_frame
          refine gm_flo (.int .u64 (u.g : Nat)) (fun w1 hw1 => ?_) ?_
          case refine_1 =>
            go_simp
          try go_frame
          refine gm_flo (.int .u64 (p2 : Nat)) (fun w1 hw1 => ?_) ?_
          case refine_1 =>
            go_simp
          try go_frame
          refine gm_flo (.int .u64 (p3 : Nat)) (fun w1 hw1 => ?_) ?_
          case refine_1 =>
            go_simp
          try go_frame
          refine gm_flo (.int .u64 (q2 : Nat)) (fun w1 hw1 => ?_) ?_
          case refine_1 =>
            go_simp
          try go_frame
          refine gm_flo (.pointer (some ⟨b, 13, none⟩)) (fun w1 hw1 => ?_) ?_
          case refine_1 =>
            go_simp
          try go_frame
          refine gm_flo (.slice (some ⟨gK, 0, none⟩) t capK) (fun w1 hw1 => ?_) ?_
          case refine_1 =>
            have hc : w1.cell? ⟨b, 13, none⟩ = some (.slice (some ⟨gK, 0, none⟩) t capK) := (cellG hw1 HB2.out (by simp) 13).trans (by rw [← hK]; rfl)
            go_simp
          try go_frame
          refine gm_flo (.int .i64 (j : Nat)) (fun w1 hw1 => ?_) ?_
          case refine_1 =>
            go_simp
          try go_frame
          refine gm_flo (.pointer (some ⟨gK, j, none⟩)) (fun w1 hw1 => ?_) ?_
          case refine_1 =>
            go_simp
          try go_frame
          refine gm_flo (.int .u64 (kk : Nat)) (fun w1 hw1 => ?_) ?_
          case refine_1 =>
            have hc := cellW (GRd.out.toS []  |>.trans hw1) GKL.out HKx.out
            go_simp
          try go_frame
          refine gm_flo (.int .u64 (q3 : Nat)) (fun w1 hw1 => ?_) ?_
          case refine_1 =>
            go_simp
          try go_frame
          refine gm_flo (.slice (some ⟨g, 0, none⟩) t cap) (fun w1 hw1 => ?_) ?_
          case refine_1 =>
            go_simp
          try go_frame
          refine gm_flo (.int .i64 (j : Nat)) (fun w1 hw1 => ?_) ?_
          case refine_1 =>
            go_simp
          try go_frame
          refine gm_flo (.pointer (some ⟨g, j, none⟩)) (fun w1 hw1 => ?_) ?_
          case refine_1 =>
            go_simp
          try go_frame
          refine gm_flo (.int .u64 (xx : Nat)) (fun w1 hw1 => ?_) ?_
          case refine_1 =>
            have hc := cellW (GRd.out.toS [] |>.trans hw1) GL.out HXx.out
            go_simp
          try go_frame
          refine gm_flo (.int .u64 (q4 : Nat)) (fun w1 hw1 => ?_) ?_
          case refine_1 =>
            go_simp
          try go_frame
          refine gm_call [.agg (kc k), .int .u64 (q4 : Nat)] (by kernel_rfl) rfl rfl Stb.tt (fun w1 hw1 hF1 => (word_any k hW q4 L4.out w1).mono ?_)
          rintro e w2 ⟨rfl, hw2⟩
          refine ⟨_, rfl, hw2, ?_⟩
          clear hw1 hF1 w1 hw2 w2
          try go_frame
          rw [← HO.out]
          refine gm_nil ?_
          intro w3 hw9 hF9
          simp only [List.drop]
          try go_frame
          have HB3 : Box (w3.drew.heap[b]? = some (.cells (kc k) 42 (0, 0))) := ⟨hw9.block HB2.out⟩
          have GR3 : Box (Gr wo w3.drew) := ⟨(GRd.out.trans hw9).trans (show Gr w3 w3.drew from (Below.refl _ _).drew)⟩
          clear HB2 GRd hw9 hF9
          go_upto_region 11 with (fail)
          refine wp_region_mix 19 [.flo, .flo, .flo, .flo, .flo, .cha, .flo, .flo, .flo, .flo, .flo, .flo, .flo, .flo, .flo, .flo, .flo, .flo, .cha] (by kernel_rfl) (by kernel_rfl) rfl ?_
          simp only [List.take, List.zip, List.zipWith]
          try go_frame
          refine gm_loadK (.tmp 3) rfl b k HB3.out (by simp) rfl ?_
          try go_frame
          refine gm_loadK (.tmp 3) rfl b k HB3.out (by simp) rfl ?_
          try go_frame
          refine gm_flo (.int .u64 (u.a : Nat)) (fun w1 hw1 => ?_) ?_
          case refine_1 =>
            go_simp
          try go_frame
          refine gm_flo (.pointer (some ⟨b, 1, none⟩)) (fun w1 hw1 => ?_) ?_
          case refine_1 =>
            go_simp
          try go_frame
          refine gm_loadT (.tmp 127) rfl b 1 k k.s.a HB3.out (by simp) rfl (kc_A k) ?_
          try go_frame
          refine gm_call [.agg (kc k), .int .u64 (u.a : Nat), .agg (tc k.s.a)] (by kernel_rfl) rfl rfl Stb.tt (fun w1 hw1 hF1 => (CA.out w1).mono ?_)
          rintro e w2 ⟨rfl, hw2⟩
          refine ⟨_, rfl, hw2, ?_⟩
          clear hw1 hF1 w1 hw2 w2
          try go_frame
          refine gm_flo (.int .u64 (u.a : Nat)) (fun w1 hw1 => ?_) ?_
          case refine_1 =>
            go_simp
          try go_frame
          refine gm_flo (.int .u64 (u.b : Nat)) (fun w1 hw1 => ?_) ?_
          case refine_1 =>
            go_simp
          try go_frame
          refine gm_flo (.int .u64 (r1 : Nat)) (fun w1 hw1 => ?_) ?_
          case refine_1 =>
            go_simp
          try go_frame
          refine gm_flo (.int .u64 (u.a : Nat)) (fun w1 hw1 => ?_) ?_
          case refine_1 =>
            go_simp
          try go_frame
          refine gm_flo (.int .u64 (u.c : Nat)) (fun w1 hw1 => ?_) ?_
          case refine_1 =>
            go_simp
          try go_frame
          refine gm_flo (.int .u64 (r2 : Nat)) (fun w1 hw1 => ?_) ?_
          case refine_1 =>
            go_simp
          try go_frame
          refine gm_flo (.int .u64 (r3 : Nat)) (fun w1 hw1 => ?_) ?_
          case refine_1 =>
            go_simp
          try go_frame
          refine gm_flo (.int .u64 (u.b : Nat)) (fun w1 hw1 => ?_) ?_
          case refine_1 =>
            go_simp
          try go_frame
          refine gm_flo (.int .u64 (u.c : Nat)) (fun w1 hw1 => ?_) ?_
          case refine_1 =>
            go_simp
          try go_frame
          refine gm_flo (.int .u64 (r4 : Nat)) (fun w1 hw1 => ?_) ?_
          case refine_1 =>
            go_simp
          try go_frame
          refine gm_flo (.int .u64 (r5 : Nat)) (fun w1 hw1 => ?_) ?_
          case refine_1 =>
            go_simp
          try go_frame
          refine gm_flo (.int .u64 (q5 : Nat)) (fun w1 hw1 => ?_) ?_
          case refine_1 =>
            go_simp
          try go_frame
          refine gm_call [.agg (kc k), .int .u64 (q5 : Nat)] (by kernel_rfl) rfl rfl Stb.tt (fun w1 hw1 hF1 => (word_any k hW q5 L5.out w1).mono ?_)
          rintro e w2 ⟨rfl, hw2⟩
          refine ⟨_, rfl, hw2, ?_⟩
          clear hw1 hF1 w1 hw2 w2
          try go_frame
          rw [← HT2.out]
          refine gm_nil ?_
          intro w4 hw9 hF9
          simp only [List.drop]
          try go_frame
          have HB4 : Box (w4.heap[b]? = some (.cells (kc k) 42 (0, 0))) := ⟨hw9.block HB3.out⟩
          have GR4 : Box (Gr wo w4) := ⟨GR3.out.trans hw9⟩
          clear HB3 GR3 hw9 hF9
          go_upto_region 15 with (fail)
          refine wp_region_seq 5 [.flo, .flo, .flo, .flo, .cha] (by rfl) rfl (by decide) ?_
          simp only [List.take, List.zip, List.zipWith]
          try go_frame
          refine gm_loadK (.tmp 3) rfl b k HB4.out (by simp) rfl ?_
          try go_frame
          refine gm_flo (.int .u64 (u.d : Nat)) (fun w1 hw1 => ?_) ?_
          case refine_1 =>
            go_simp
          try go_frame
          refine gm_flo (.int .u64 (O : Nat)) (fun w1 hw1 => ?_) ?_
          case refine_1 =>
            go_simp
          try go_frame
          refine gm_flo (.int .u64 (q6 : Nat)) (fun w1 hw1 => ?_) ?_
          case refine_1 =>
            go_simp
          try go_frame
          refine gm_call [.agg (kc k), .int .u64 (q6 : Nat)] (by kernel_rfl) rfl rfl Stb.tt (fun w1 hw1 hF1 => (word_any k hW q6 L6.out w1).mono ?_)
          rintro e w2 ⟨rfl, hw2⟩
          refine ⟨_, rfl, hw2, ?_⟩
          clear hw1 hF1 w1 hw2 w2
          try go_frame
          rw [← HZ6.out]
          refine gm_nil ?_
          intro w5 hw9 hF9
          simp only [List.drop]
          try go_frame
          have HB5 : Box (w5.heap[b]? = some (.cells (kc k) 42 (0, 0))) := ⟨hw9.block HB4.out⟩
          have GR5 : Box (Gr wo w5) := ⟨GR4.out.trans hw9⟩
          clear HB4 GR4 hw9 hF9
          go_upto_region 19 with (fail)
          refine wp_region_seq 5 [.flo, .flo, .flo, .flo, .cha] (by rfl) rfl (by decide) ?_
          simp only [List.take, List.zip, List.zipWith]
          try go_frame
          refine gm_loadK (.tmp 3) rfl b k HB5.out (by simp) rfl ?_
          try go_frame
          refine gm_flo (.int .u64 (O : Nat)) (fun w1 hw1 => ?_) ?_
          case refine_1 =>
            go_simp
          try go_frame
          refine gm_flo (.int .u64 (T2 : Nat)) (fun w1 hw1 => ?_) ?_
          case refine_1 =>
            go_simp
          try go_frame
          refine gm_flo (.int .u64 (q7 : Nat)) (fun w1 hw1 => ?_) ?_
          case refine_1 =>
            go_simp
          try go_frame
          refine gm_call [.agg (kc k), .int .u64 (q7 : Nat)] (by kernel_rfl) rfl rfl Stb.tt (fun w1 hw1 hF1 => (word_any k hW q7 L7.out w1).mono ?_)
          rintro e w2 ⟨rfl, hw2⟩
          refine ⟨_, rfl, hw2, ?_⟩
          clear hw1 hF1 w1 hw2 w2
          try go_frame
          rw [← HZ7.out]
          refine gm_nil ?_
          intro w6 hw9 hF9
          simp only [List.drop]
          try go_frame
          have GR6 : Box (Gr wo w6) := ⟨GR5.out.trans hw9⟩
          clear HB5 GR5 hw9 hF9
          go_wp2_with fail
          exact ⟨⟨j + 1, by omega, by go_num, ⟨z7, u.a, u.b, u.c, z6, u.e, u.f, u.g⟩, HST.out.symm, HOK2.out, rfl, rfl, rfl, rfl, rfl, rfl, rfl, rfl, GR6.out⟩, by simp [intOf]; omega⟩
        · obtain rfl : j = t := by omega
          have hend : u = rnds k.W k.s ks L v := by rw [HU.out, List.take_of_length_le (by have := HN.out; omega), List.take_of_length_le (by have := HLL.out; omega)]
          have hblk : blk k.W k.s ks v l = plus k.W u v := by unfold blk; rw [HN.out, HL.out, HLE.out, ← hend, plus_comm]
          have HBLK := Box.mk hblk
          clear hlt hj hend hblk HU
          go_upto_region 21 with (fail)
          obtain ⟨b8, hb8⟩ : ∃ b8, b8 = wx.heap.size := ⟨_, rfl⟩
          have R0 : Box ((wx.alloc (.cells (v8c64 (mixV k.W 0 u v)) 44)).heap[b8]? = some (.cells (v8c64 (mixV k.W 0 u v)) 44 (0, 0))) := ⟨by rw [hb8]; exact heap_alloc_new wx _⟩
          have ST8 : Box (BSt w B b k (wx.alloc (.cells (v8c64 (mixV k.W 0 u v)) 44))) := ⟨(ST.out.gr GR.out).gr (Gr.alloc _ _)⟩
          have GR8 : Box (Gr wo (wx.alloc (.cells (v8c64 (mixV k.W 0 u v)) 44))) := ⟨GR.out.trans (Gr.alloc _ _)⟩
          have hwb : w.heap.size ≤ wo.heap.size := ST.out.bel.size
          have HWB : Box (w.heap.size ≤ b8) := ⟨Nat.le_trans hwb (by rw [hb8]; exact GR.out.size)⟩
          have HGB : Box (gs ≠ b8) := ⟨by have := HGS.out; have := HBb.out; have := HEB.out; have := HWB.out; omega⟩
          have HBB : Box (b ≠ b8) := ⟨Nat.ne_of_lt (by rw [hb8]; exact (Array.getElem?_eq_some_iff.1 HB.out).1)⟩
          have HBs : Box (B ≤ b8) := ⟨by have := HBb.out; have := HEB.out; have := HWB.out; omega⟩
          rw [← hb8]
          clear hb8 hwb
          rw [show #[Value.int IntKind.u64 (u.a : Nat), .int .u64 (u.b : Nat), .int .u64 (u.c : Nat), .int .u64 (u.d : Nat), .int .u64 (u.e : Nat), .int .u64 (u.f : Nat), .int .u64 (u.g : Nat), .int .u64 (u.h : Nat)] = v8c64 (mixV k.W 0 u v) from rfl]
          generalize wx.alloc (.cells (v8c64 (mixV k.W 0 u v)) 44) = w8 at R0 ST8 GR8 ⊢
          go_wp2_with fail
          go_loopw [20] (fun i wy => ∃ q : Nat, q ≤ 8 ∧ i = .int .i64 q ∧ wy.heap[b8]? = some (.cells (v8c64 (mixV k.W q u v)) 44 (0, 0)) ∧ BSt w B b k wy) (fun i _ => 8 - (intOf i).toNat)
          case atStart => exact ⟨0, by omega, rfl, R0.out, ST8.out⟩
          case round =>
            clear R0 ST8 GR8 GR HB ST
            obtain ⟨wy, rfl⟩ : ∃ wy : World, wy = wr := ⟨_, rfl⟩
            obtain ⟨q, hq, rfl, row, st⟩ := hrel
            have ROW := Box.mk row; have ST := Box.mk st
            clear row st
            by_cases hlt : q < 8
            · have hqI : (q : Int) < 8 := by omega
              have c1 : wy.cell? ⟨b8, q, none⟩ = some (.int .u64 (u.list.getD q 0 : Nat)) := by
                rw [cell_of_row _ _ _ _ _ _ ROW.out, v8c64_cell _ hlt, mixV_at _ _ hlt]
              have c2 : wy.cell? ⟨gs, q, none⟩ = some (.int .u64 (v.list.getD q 0 : Nat)) := (ST.out.bel.cell (p := ⟨gs, q, none⟩) HGS.out).trans (HSCw.out q hlt)
              have hset := v8c64_set k.W q hlt u v
              generalize u.list.getD q 0 = y1 at c1 hset
              generalize v.list.getD q 0 = y2 at c2 hset
              obtain ⟨a1, ha1, hw1⟩ := wrapS y1 y2
              rw [← add2 hW, ← ha1] at hset
              have L1 : Box (a1 < 18446744073709551616) := ⟨by rw [ha1]; exact M_lt _⟩
              obtain ⟨z, hz⟩ : ∃ z, z = a1 % 2 ^ k.W := ⟨_, rfl⟩
              have HZ := Box.mk hz
              rw [← hz] at hset
              have HSET := Box.mk (hset z rfl); have HC1 := Box.mk c1; have HC2 := Box.mk c2
              clear hset ha1 hz c1 c2
              go_upto_region 24 with (fail)
              have HB : Box (wy.drew.heap[b]? = some (.cells (kc k) 42 (0, 0))) := ⟨ST.out.kb⟩
              have l8 : Box (b8 < wy.drew.heap.size) := ⟨(Array.getElem?_eq_some_iff.1 ROW.out).1⟩
              have ls : Box (gs < wy.drew.heap.size) := ⟨Nat.lt_of_lt_of_le HGS.out ST.out.sz⟩
              refine wp_region_mix 14 [.flo, .flo, .flo, .flo, .flo, .flo, .flo, .flo, .flo, .flo, .flo, .flo, .cha, .flo] (by kernel_rfl) (by kernel_rfl) rfl ?_
              simp only [List.take, List.zip, List.zipWith]
              try go_frame
              refine gm_flo (.slice (some ⟨b8, 0, none⟩) 8 8) (fun w1 hw1 => ?_) ?_
              case refine_1 =>
                go_simp
              try go_frame
              refine gm_flo (.int .i64 (q : Nat)) (fun w1 hw1 => ?_) ?_
              case refine_1 =>
                go_simp
              try go_frame
              refine gm_loadK (.tmp 3) rfl b k HB.out (by simp) rfl ?_
              try go_frame
              refine gm_flo (.slice (some ⟨b8, 0, none⟩) 8 8) (fun w1 hw1 => ?_) ?_
              case refine_1 =>
                go_simp
              try go_frame
              refine gm_flo (.int .i64 (q : Nat)) (fun w1 hw1 => ?_) ?_
              case refine_1 =>
                go_simp
              try go_frame
              refine gm_flo (.pointer (some ⟨b8, q, none⟩)) (fun w1 hw1 => ?_) ?_
              case refine_1 =>
                go_simp
              try go_frame
              refine gm_flo (.int .u64 (y1 : Nat)) (fun w1 hw1 => ?_) ?_
              case refine_1 =>
                have hc := cellW hw1 l8.out HC1.out
                go_simp
              try go_frame
              refine gm_flo (.slice (some ⟨gs, 0, none⟩) 8 cs) (fun w1 hw1 => ?_) ?_
              case refine_1 =>
                go_simp
              try go_frame
              refine gm_flo (.int .i64 (q : Nat)) (fun w1 hw1 => ?_) ?_
              case refine_1 =>
                go_simp
              try go_frame
              refine gm_flo (.pointer (some ⟨gs, q, none⟩)) (fun w1 hw1 => ?_) ?_
              case refine_1 =>
                go_simp
              try go_frame
              refine gm_flo (.int .u64 (y2 : Nat)) (fun w1 hw1 => ?_) ?_
              case refine_1 =>
                have hc := cellW hw1 ls.out HC2.out
                go_simp
              try go_frame
              refine gm_flo (.int .u64 (a1 : Nat)) (fun w1 hw1 => ?_) ?_
              case refine_1 =>
                go_simp
              try go_frame
              refine gm_call [.agg (kc k), .int .u64 (a1 : Nat)] (by kernel_rfl) rfl rfl Stb.tt (fun w1 hw1 hF1 => (word_any k hW a1 L1.out w1).mono ?_)
              rintro e w2 ⟨rfl, hw2⟩
              refine ⟨_, rfl, hw2, ?_⟩
              clear hw1 hF1 w1 hw2 w2
              try go_frame
              rw [← HZ.out]
              refine gm_flo (.pointer (some ⟨b8, q, none⟩)) (fun w1 hw1 => ?_) ?_
              case refine_1 =>
                go_simp
              try go_frame
              refine gm_nil ?_
              intro w7 hw9 hF9
              simp only [List.drop]
              try go_frame
              have hf : w7.frozen? ⟨b8, q, none⟩ = false := frozen_of_row _ _ _ _ _ (hw9.block (show wy.drew.heap[b8]? = _ from ROW.out))
              have hcc : w7.cell? ⟨b8, q, none⟩ = some (.int .u64 (y1 : Nat)) := cellW (hw9.toS []) l8.out HC1.out
              have ST7 := Box.mk (ST.out.drew.gr hw9)
              have RW7 := Box.mk (hw9.block (show wy.drew.heap[b8]? = _ from ROW.out))
              clear hw9 hF9 HB l8 ls
              go_wp2_with fail
              refine ⟨⟨q + 1, by omega, by go_num, ?_, ?_, ?_, ?_⟩, by simp [intOf]; omega⟩
              · rw [heap_setCell_same _ _ _ _ _ _ RW7.out, HSET.out]
              · exact ST7.out.bel.setCell HBs.out _
              · simpa using ST7.out.sz
              · rw [heap_setCell_other _ _ _ _ HBB.out]; exact ST7.out.kb
            · obtain rfl : q = 8 := by omega
              have row := ROW.out
              rw [mixV_all, ← HBLK.out] at row
              have ROW := Box.mk row
              clear hlt row
              go_wp2_with fail
              go_ret
              exact ⟨b8, rfl, HWB.out, (Array.getElem?_eq_some_iff.1 ROW.out).1, fun j hj => by rw [cell_of_row _ _ _ _ _ _ ROW.out, v8c64_cell _ hj], ST.out.bel⟩
end Go.Proofs.Ytbjapmhfnegmeaa.Big
