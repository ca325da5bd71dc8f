/- The document of sha2: a block. Rows of the call's own: append, and where the row lies then; append among the operations of a region. The document of sha2: Of, a kind's constants. The document of sha2: Of, a kind's constants. The document of sha2: One, kind 0. The document of sha2: One, kind 1. -/
import Derived.Test.YtafhncpaoolljaaGreatM38
import Derived.Test.YtafhncpaoolljaaGreatM07
import Derived.Test.YtafhncpaoolljaaGreatM02
import Derived.Deep.MidRow
import Derived.Test.YtafhncpaoolljaaGreatM09
namespace Go.Proofs.YtafhncpaoolljaaGreat.Big
set_option maxRecDepth 100000
set_option linter.unusedVariables false
open Go Go.RowKit
open Sha
section
variable {P : Program} {W : World} {S : List Nat} {T : (World → Prop) → List Nat → Act → Prop} {L : List (Oper × Kd)} {F : World → Prop} {N : List Nat} {a : Act} {o : Oper}
theorem gm_one {ty e : TypeId} (x : Operand) (ho : o.op = .buildSlice ty 1 #[(0, x)]) (v : Value) (hx : a.eval x = v) (hr : ∀ w, (Instr.buildSlice ty 1 #[(0, v)]).run P w = .ok (.slice (some ⟨w.heap.size, 0, none⟩) 1 1) (w.alloc (.cells #[v] e))) (hF : Stb F)
   (h : ∀ b, W.heap.size ≤ b → wpG P W S T L (fun w => F w ∧ w.heap[b]? = some (.cells #[v] e (0, 0))) ([b] ++ N) (a.put o.dst (.slice (some ⟨b, 0, none⟩) 1 1))) : wpG P W S T ((o, .cha) :: L) F N a :=
 gm_val fun w hw hFw => ⟨_, _, by
   subst hx
   unfold execOp
   simp only [ho, Sem.run_bind, List.map_toArray, List.map_cons, List.map_nil, hr, Result.andThen_ok, Sem.run_pure], Gr.alloc _ _, _, [w.heap.size], hF.new _ _, ⟨hF _ _ (Gr.alloc _ _) hFw, heap_alloc_new _ _⟩, fun b hb => by simp at hb; subst hb; simp, h _ hw.size⟩
theorem gm_loadT (x : Operand) (ho : o.op = .load 139 x) (b off : Nat) (k : KV) (t : T3) (hb : W.heap[b]? = some (.cells (kc k) 141 (0, 0))) (hbS : b ∉ S) (hx : a.eval x = .pointer (some ⟨b, off, none⟩))
   (ht : ∀ j u, [iv t.a, iv t.b, iv t.c][j]? = some u → (kc k)[off + j]? = some u)
   (h : wpG Tryz.prog W S T L F N (a.put o.dst (.agg (tc t)))) : wpG Tryz.prog W S T ((o, .flo) :: L) F N a :=
 gm_flo _ (fun w hw => by
   unfold execOp
   simp only [ho, hx, Sem.run_bind, Sem.run_pure, Result.andThen_ok, run_loadAt_mid w b off 139 [iv t.a, iv t.b, iv t.c] _ (fun j u hj => (cellG hw hb hbS _).trans (ht j u hj)) Tryz.underlying139 rfl (by kernel_rfl)]
   rfl) h
end
theorem kc_A (k : KV) : ∀ j u, [iv k.s.a.a, iv k.s.a.b, iv k.s.a.c][j]? = some u → (kc k)[1 + j]? = some u
 | 0, _, h => h | 1, _, h => h | 2, _, h => h | _ + 3, _, h => by simp at h
theorem kc_B (k : KV) : ∀ j u, [iv k.s.b.a, iv k.s.b.b, iv k.s.b.c][j]? = some u → (kc k)[4 + j]? = some u
 | 0, _, h => h | 1, _, h => h | 2, _, h => h | _ + 3, _, h => by simp at h
theorem kc_C (k : KV) : ∀ j u, [iv k.s.c.a, iv k.s.c.b, iv k.s.c.c][j]? = some u → (kc k)[7 + j]? = some u
 | 0, _, h => h | 1, _, h => h | 2, _, h => h | _ + 3, _, h => by simp at h
theorem kc_D (k : KV) : ∀ j u, [iv k.s.d.a, iv k.s.d.b, iv k.s.d.c][j]? = some u → (kc k)[10 + j]? = some u
 | 0, _, h => h | 1, _, h => h | 2, _, h => h | _ + 3, _, h => by simp at h
theorem cellW {W w : World} (hw : GrS [] W w) {g j : Nat} {v : Value} (hg : g < W.heap.size) (h : W.cell? ⟨g, j, none⟩ = some v) : w.cell? ⟨g, j, none⟩ = some v :=
 (World.cell?_of_block (w := W) (hw.block g hg (by simp))).trans h
structure BSt (w : World) (B b : Nat) (k : KV) (wr : World) : Prop where
 bel : Below B w wr
 sz : B ≤ wr.heap.size
 kb : wr.heap[b]? = some (.cells (kc k) 141 (0, 0))
theorem BSt.drew {w wr : World} {B b : Nat} {k : KV} (h : BSt w B b k wr) : BSt w B b k wr.drew := ⟨h.bel.drew, h.sz, h.kb⟩
theorem BSt.gr {w wr w' : World} {B b : Nat} {k : KV} (h : BSt w B b k wr) (hg : Gr wr w') : BSt w B b k w' := ⟨h.bel.trans (hg.below.mono h.sz), Nat.le_trans h.sz hg.size, hg.block h.kb⟩
theorem own_ne {w : World} {B b n : Nat} {k : KV} {v : Value} {xs : List Value} (h : Own w B 54 v n xs) (hb : w.heap[b]? = some (.cells (kc k) 141 (0, 0))) : v.ownBlock ≠ some b := by
 intro he
 rcases h.2 with ⟨rfl, _⟩ | ⟨g, cap, cur, fr, rfl, _, hg, _⟩
 · simp [Value.ownBlock] at he
 · simp [Value.ownBlock] at he
   subst he
   rw [hb] at hg
   have := Option.some.inj hg
   injection this with _ h2 _
   exact absurd h2 (by decide)
theorem BSt.grown {w wr w' : World} {B b n : Nat} {k : KV} {v : Value} {xs : List Value} (h : BSt w B b k wr) (ho : Own wr B 54 v n xs) (hg : wr.grownBy w' v.ownBlock) (hb : Below B w w') (hs : B ≤ w'.heap.size) : BSt w B b k w' :=
 ⟨hb, hs, (hg.block b (Array.getElem?_eq_some_iff.1 h.kb).1 (Ne.symm (own_ne ho h.kb))).trans h.kb⟩
theorem map_at (L : List Nat) (j : Nat) (h : j < L.length) : (L.map u64v)[j]? = some (.int .u64 (L.getD j 0 : Nat)) := by
 rw [List.getElem?_map, List.getElem?_eq_getElem h, List.getD_eq_getElem?_getD, List.getElem?_eq_getElem h]; rfl
theorem v8c64_set (W k : Nat) (hk : k < 8) (A v : V8) (x : Nat) (hx : x = (A.list.getD k 0 + v.list.getD k 0) % 2 ^ W) :
   (v8c64 (mixV W k A v)).setIfInBounds k (.int .u64 (x : Nat)) = v8c64 (mixV W (k + 1) A v) := by
 subst hx
 match k, hk with
 | 0, _ => rfl
 | 1, _ => rfl
 | 2, _ => rfl
 | 3, _ => rfl
 | 4, _ => rfl
 | 5, _ => rfl
 | 6, _ => rfl
 | 7, _ => rfl
theorem mixV_at (W k : Nat) (hk : k < 8) (A v : V8) : (mixV W k A v).list.getD k 0 = A.list.getD k 0 := by
 match k, hk with
 | 0, _ => rfl
 | 1, _ => rfl
 | 2, _ => rfl
 | 3, _ => rfl
 | 4, _ => rfl
 | 5, _ => rfl
 | 6, _ => rfl
 | 7, _ => rfl
theorem plus_comm (W : Nat) (v u : V8) : plus W v u = plus W u v := by
 unfold plus; congr 2 <;> omega
theorem add4 {W : Nat} (hW : W = 32 ∨ W = 64) (a b c d : Nat) : (((a + b) % 18446744073709551616 + c) % 18446744073709551616 + d) % 18446744073709551616 % 2 ^ W = (a + b + c + d) % 2 ^ W := by
 rcases hW with rfl | rfl <;> omega
theorem add5 {W : Nat} (hW : W = 32 ∨ W = 64) (a b c d e : Nat) : ((((a + b) % 18446744073709551616 + c) % 18446744073709551616 + d) % 18446744073709551616 + e) % 18446744073709551616 % 2 ^ W = (a + b + c + d + e) % 2 ^ W := by
 rcases hW with rfl | rfl <;> omega
theorem add2 {W : Nat} (hW : W = 32 ∨ W = 64) (a b : Nat) : (a + b) % 18446744073709551616 % 2 ^ W = (a + b) % 2 ^ W := by
 rcases hW with rfl | rfl <;> omega
theorem not_and {W : Nat} (hW : W = 32 ∨ W = 64) (e g : Nat) (he : e < 2 ^ W) (hg : g < 2 ^ W) : (2 ^ 64 - 1 - e) &&& g = (2 ^ W - 1 - e) &&& g := by
 rcases hW with rfl | rfl
 · apply Nat.eq_of_testBit_eq
   intro i
   have he64 : e < 2 ^ 64 := Nat.lt_trans he (by decide)
   rw [Nat.testBit_and, Nat.testBit_and, show 2 ^ 64 - 1 - e = 2 ^ 64 - (e + 1) from by omega, show 2 ^ 32 - 1 - e = 2 ^ 32 - (e + 1) from by omega, Nat.testBit_two_pow_sub_succ he, Nat.testBit_two_pow_sub_succ he64]
   by_cases hi : i < 32
   · have : i < 64 := by omega
     simp [hi, this]
   · have : g.testBit i = false := Nat.testBit_lt_two_pow (Nat.lt_of_lt_of_le hg (Nat.pow_le_pow_right (by omega) (by omega)))
     simp [this]
 · rfl
theorem wrapS (a b : Nat) : ∃ y : Nat, y = (a + b) % 18446744073709551616 ∧ IntKind.u64.wrap ((a : Int) + (b : Int)) = (y : Int) := ⟨_, rfl, by rw [IntKind.wrap_u64]; omega⟩
theorem M_lt (a : Nat) : a % 18446744073709551616 < 18446744073709551616 := Nat.mod_lt _ (by decide)
set_option maxRecDepth 100000 in
set_option maxHeartbeats 8000000 in
theorem block_any (k : KV) (hW : k.W = 32 ∨ k.W = 64) (hs : k.s.Ok k.W) (ks : List Nat) (hks : ∀ x ∈ ks, x < 2 ^ 64) (n : Nat) (hn : ks.length = n) (hn1 : 16 ≤ n) (hn2 : n ≤ 80)
   (gK capK : Nat) (hK : k.K = .slice (some ⟨gK, 0, none⟩) n capK) (v : V8) (hv : v.Ok k.W) (gs cs : Nat) (l : List Nat) (hl : l.length = 16) (hlb : ∀ x ∈ l, x < 2 ^ k.W) (x : Value) (B : Nat) (w : World)
   (hB : B ≤ w.heap.size) (hgK : gK < B) (hgs : gs < B) (hKc : ∀ j, j < n → w.cell? ⟨gK, j, none⟩ = some (.int .u64 (ks.getD j 0 : Nat)))
   (hsc : ∀ j, j < 8 → w.cell? ⟨gs, j, none⟩ = some (.int .u64 (v.list.getD j 0 : Nat))) (hx : Own w B 54 x 16 (l.map u64v)) (hxn : x ≠ .slice none 0 0) :
   Calls Tryz.prog 115 #[.agg (kc k), .slice (some ⟨gs, 0, none⟩) 8 cs, x] w fun e w' => ∃ g, e = .returned (.slice (some ⟨g, 0, none⟩) 8 8) ∧ w.heap.size ≤ g ∧ g < w'.heap.size ∧
     (∀ j, j < 8 → w'.cell? ⟨g, j, none⟩ = some (.int .u64 ((blk k.W k.s ks v l).list.getD j 0 : Nat))) ∧ Below B w w' := by
 obtain ⟨b, hb⟩ : ∃ b, b = w.heap.size := ⟨_, rfl⟩
 have hBb : B ≤ b := by omega
 have st0 : Box (BSt w B b k (w.alloc (.cells (kc k) 141))) := ⟨⟨(Below.refl _ _).alloc hB _, by simp; omega, by rw [hb]; exact heap_alloc_new w _⟩⟩
 have OW0 : Box (Own (w.alloc (.cells (kc k) 141)) B 54 x 16 ((sched k.W k.s 0 l).map u64v)) := ⟨hx.alloc _⟩
 have HKC := Box.mk hKc; have HSC := Box.mk hsc; have HBb := Box.mk hBb; have HGK := Box.mk hgK; have HGS := Box.mk hgs; have HXN := Box.mk hxn; have HLB := Box.mk hlb; have HL := Box.mk hl; have HS := Box.mk hs
 have HKS := Box.mk hks; have HN := Box.mk hn; have HV := Box.mk hv; have HEB := Box.mk hb
 have hn1I : (16 : Int) ≤ (n : Int) := by omega
 clear hKc hsc hBb hgK hgs hxn hlb hl hs hx hB hks hn hv
 go_enter Tryz.func115, Tryz.ntmps115
 go_upto_region 1 with (fail)
 rw [← hb]
 clear hb
 generalize w.alloc (.cells (kc k) 141) = w0 at st0 OW0 ⊢
 go_wp2_with fail
 go_loopw [2, 7] (fun x i wr => ∃ t : Nat, 16 ≤ t ∧ t ≤ n ∧ i = .int .i64 t ∧ Own wr B 54 x t ((sched k.W k.s (t - 16) l).map u64v) ∧ x ≠ .slice none 0 0 ∧ BSt w B b k wr) (fun _ i _ => n - (intOf i).toNat)
 case atStart => exact ⟨16, by omega, hn1, rfl, OW0.out, HXN.out, st0.out⟩
 case round =>
   clear OW0 st0 HXN
   obtain ⟨t, ht16, htn, rfl, hown, hne, st⟩ := hrel
   obtain ⟨g, cap, rfl, hBg, hcell, hglt, htc⟩ := hown.cells hne
   have OW := Box.mk hown; have ST := Box.mk st
   have hLL := sched_len k.W k.s (t - 16) l
   have hLT := sched_lt k.W k.s (t - 16) l HLB.out
   have hKK : wr.cell? ⟨b, 13, none⟩ = some (.slice (some ⟨gK, 0, none⟩) n capK) := by rw [cell_of_row _ _ _ _ _ _ st.kb, ← hK]; rfl
   have GL := Box.mk hglt
   clear hown hne st hglt htc
   by_cases hlt : t < n
   · have hnx := sched_succ k.W k.s (t - 16) l
     rw [show t - 16 + 1 = t + 1 - 16 by omega] at hnx
     generalize sched k.W k.s (t - 16) l = L at OW hLL hLT hnx hcell
     have hLL : L.length = t := by have := HL.out; omega
     have hltI : (t : Int) < (n : Int) := by omega
     have hl := pw_le hW
     obtain ⟨p2, hp2⟩ : ∃ p, p = t - 2 := ⟨_, rfl⟩
     have hpw2 : IntKind.i64.wrap ((t : Int) - 2) = (p2 : Int) := by rw [IntKind.wrap_i64]; omega
     have hpl2 : (p2 : Int) < (t : Int) := by omega
     have hc2 := hcell p2 _ (map_at L p2 (by omega))
     have ly2 := getD_lt hLT p2
     obtain ⟨p7, hp7⟩ : ∃ p, p = t - 7 := ⟨_, rfl⟩
     have hpw7 : IntKind.i64.wrap ((t : Int) - 7) = (p7 : Int) := by rw [IntKind.wrap_i64]; omega
     have hpl7 : (p7 : Int) < (t : Int) := by omega
     have hc7 := hcell p7 _ (map_at L p7 (by omega))
     have ly7 := getD_lt hLT p7
     obtain ⟨p15, hp15⟩ : ∃ p, p = t - 15 := ⟨_, rfl⟩
     have hpw15 : IntKind.i64.wrap ((t : Int) - 15) = (p15 : Int) := by rw [IntKind.wrap_i64]; omega
     have hpl15 : (p15 : Int) < (t : Int) := by omega
     have hc15 := hcell p15 _ (map_at L p15 (by omega))
     have ly15 := getD_lt hLT p15
     obtain ⟨p16, hp16⟩ : ∃ p, p = t - 16 := ⟨_, rfl⟩
     have hpw16 : IntKind.i64.wrap ((t : Int) - 16) = (p16 : Int) := by rw [IntKind.wrap_i64]; omega
     have hpl16 : (p16 : Int) < (t : Int) := by omega
     have hc16 := hcell p16 _ (map_at L p16 (by omega))
     have ly16 := getD_lt hLT p16
     unfold nextW at hnx
     rw [hLL, ← hp2, ← hp7, ← hp15, ← hp16] at hnx
     generalize L.getD p2 0 = y2 at hc2 ly2 hnx
     generalize L.getD p7 0 = y7 at hc7 ly7 hnx
     generalize L.getD p15 0 = y15 at hc15 ly15 hnx
     generalize L.getD p16 0 = y16 at hc16 ly16 hnx
     have C2 := Box.mk (two_any k hW y2 k.s.d ly2 (Nat.le_of_lt HS.out.d.a.2) (Nat.le_of_lt HS.out.d.b.2) (Nat.le_of_lt HS.out.d.c.2))
     have C15 := Box.mk (two_any k hW y15 k.s.c ly15 (Nat.le_of_lt HS.out.c.a.2) (Nat.le_of_lt HS.out.c.b.2) (Nat.le_of_lt HS.out.c.c.2))
     have HKs := Box.mk HS.out
     generalize sml k.W y2 k.s.d = m2 at C2 hnx
     generalize sml k.W y15 k.s.c = m15 at C15 hnx
     rw [← add4 hW] at hnx
     obtain ⟨a1, ha1, hw1⟩ := wrapS m2 y7
     rw [← ha1] at hnx
     obtain ⟨a2, ha2, hw2⟩ := wrapS a1 m15
     rw [← ha2] at hnx
     obtain ⟨a3, ha3, hw3⟩ := wrapS a2 y16
     rw [← ha3] at hnx
     have L3 : Box (a3 < 18446744073709551616) := ⟨by rw [ha3]; exact M_lt _⟩
     obtain ⟨z, hz⟩ : ∃ z, z = a3 % 2 ^ k.W := ⟨_, rfl⟩
     rw [← hz] at hnx
     have HZ := Box.mk hz; have HNX := Box.mk hnx
     have HC2 := Box.mk hc2; have HC7 := Box.mk hc7; have HC15 := Box.mk hc15; have HC16 := Box.mk hc16; have HP := Box.mk hLL
     clear ha1 ha2 ha3 hz hnx ly2 ly7 ly15 ly16 hl hLL hLT hcell hp2 hp7 hp15 hp16 hc2 hc7 hc15 hc16 hBg
     go_upto_region 4 with (fail)
     have HB : Box (wr.drew.heap[b]? = some (.cells (kc k) 141 (0, 0))) := ⟨ST.out.kb⟩
     refine wp_region_mix 35 [.flo, .flo, .flo, .flo, .flo, .flo, .flo, .flo, .flo, .flo, .cha, .flo, .flo, .flo, .flo, .flo, .flo, .flo, .flo, .flo, .flo, .flo, .flo, .flo, .flo, .cha, .flo, .flo, .flo, .flo, .flo, .flo, .flo, .cha, .cha] (by kernel_rfl) (by kernel_rfl) rfl ?_
     simp only [List.take, List.zip, List.zipWith]
     try go_frame
     refine gm_flo (.slice (some ⟨g, 0, none⟩) t cap) (fun w1 hw1 => ?_) ?_
     case refine_1 =>
       go_simp
     try go_frame
     refine gm_loadK (.tmp 3) rfl b k HB.out (by simp) rfl ?_
     try go_frame
     refine gm_loadK (.tmp 3) rfl b k HB.out (by simp) rfl ?_
     try go_frame
     refine gm_flo (.slice (some ⟨g, 0, none⟩) t cap) (fun w1 hw1 => ?_) ?_
     case refine_1 =>
       go_simp
     try go_frame
     refine gm_flo (.int .i64 (t : Nat)) (fun w1 hw1 => ?_) ?_
     case refine_1 =>
       go_simp
     try go_frame
     refine gm_flo (.int .i64 (p2 : Nat)) (fun w1 hw1 => ?_) ?_
     case refine_1 =>
       go_simp
     try go_frame
     refine gm_flo (.pointer (some ⟨g, p2, none⟩)) (fun w1 hw1 => ?_) ?_
     case refine_1 =>
       go_simp
     try go_frame
     refine gm_flo (.int .u64 (y2 : Nat)) (fun w1 hw1 => ?_) ?_
     case refine_1 =>
       have hc := cellW hw1 GL.out HC2.out
       go_simp
     try go_frame
     refine gm_flo (.pointer (some ⟨b, 10, none⟩)) (fun w1 hw1 => ?_) ?_
     case refine_1 =>
       go_simp
     try go_frame
     refine gm_loadT (.tmp 36) rfl b 10 k k.s.d HB.out (by simp) rfl (kc_D k) ?_
     try go_frame
     refine gm_call [.agg (kc k), .int .u64 (y2 : Nat), .agg (tc k.s.d)] (by kernel_rfl) rfl rfl Stb.tt (fun w1 hw1 hF1 => (C2.out w1).mono ?_)
     rintro e w2 ⟨rfl, hw2⟩
     refine ⟨_, rfl, hw2, ?_⟩
     clear hw1 hF1 w1 hw2 w2
     try go_frame
     refine gm_flo (.slice (some ⟨g, 0, none⟩) t cap) (fun w1 hw1 => ?_) ?_
     case refine_1 =>
       go_simp
     try go_frame
     refine gm_flo (.int .i64 (t : Nat)) (fun w1 hw1 => ?_) ?_
     case refine_1 =>
       go_simp
     try go_frame
     refine gm_flo (.int .i64 (p7 : Nat)) (fun w1 hw1 => ?_) ?_
     case refine_1 =>
       go_simp
     try go_frame
     refine gm_flo (.pointer (some ⟨g, p7, none⟩)) (fun w1 hw1 => ?_) ?_
     case refine_1 =>
       go_simp
     try go_frame
     refine gm_flo (.int .u64 (y7 : Nat)) (fun w1 hw1 => ?_) ?_
     case refine_1 =>
       have hc := cellW hw1 GL.out HC7.out
       go_simp
     try go_frame
     refine gm_flo (.int .u64 (a1 : Nat)) (fun w1 hw1 => ?_) ?_
     case refine_1 =>
       go_simp
     try go_frame
     refine gm_loadK (.tmp 3) rfl b k HB.out (by simp) rfl ?_
     try go_frame
     refine gm_flo (.slice (some ⟨g, 0, none⟩) t cap) (fun w1 hw1 => ?_) ?_
     case refine_1 =>
       go_simp
     try go_frame
     refine gm_flo (.int .i64 (t : Nat)) (fun w1 hw1 => ?_) ?_
     case refine_1 =>
       go_simp
     try go_frame
     refine gm_flo (.int .i64 (p15 : Nat)) (fun w1 hw1 => ?_) ?_
     case refine_1 =>
       go_simp
     try go_frame
     refine gm_flo (.pointer (some ⟨g, p15, none⟩)) (fun w1 hw1 => ?_) ?_
     case refine_1 =>
       go_simp
     try go_frame
     refine gm_flo (.int .u64 (y15 : Nat)) (fun w1 hw1 => ?_) ?_
     case refine_1 =>
       have hc := cellW hw1 GL.out HC15.out
       go_simp
     try go_frame
     refine gm_flo (.pointer (some ⟨b, 7, none⟩)) (fun w1 hw1 => ?_) ?_
     case refine_1 =>
       go_simp
     try go_frame
     refine gm_loadT (.tmp 51) rfl b 7 k k.s.c HB.out (by simp) rfl (kc_C k) ?_
     try go_frame
     refine gm_call [.agg (kc k), .int .u64 (y15 : Nat), .agg (tc k.s.c)] (by kernel_rfl) rfl rfl Stb.tt (fun w1 hw1 hF1 => (C15.out w1).mono ?_)
     rintro e w2 ⟨rfl, hw2⟩
     refine ⟨_, rfl, hw2, ?_⟩
     clear hw1 hF1 w1 hw2 w2
     try go_frame
     refine gm_flo (.int .u64 (a2 : Nat)) (fun w1 hw1 => ?_) ?_
     case refine_1 =>
       go_simp
     try go_frame
     refine gm_flo (.slice (some ⟨g, 0, none⟩) t cap) (fun w1 hw1 => ?_) ?_
     case refine_1 =>
       go_simp
     try go_frame
     refine gm_flo (.int .i64 (t : Nat)) (fun w1 hw1 => ?_) ?_
     case refine_1 =>
       go_simp
     try go_frame
     refine gm_flo (.int .i64 (p16 : Nat)) (fun w1 hw1 => ?_) ?_
     case refine_1 =>
       go_simp
     try go_frame
     refine gm_flo (.pointer (some ⟨g, p16, none⟩)) (fun w1 hw1 => ?_) ?_
     case refine_1 =>
       go_simp
     try go_frame
     refine gm_flo (.int .u64 (y16 : Nat)) (fun w1 hw1 => ?_) ?_
     case refine_1 =>
       have hc := cellW hw1 GL.out HC16.out
       go_simp
     try go_frame
     refine gm_flo (.int .u64 (a3 : Nat)) (fun w1 hw1 => ?_) ?_
     case refine_1 =>
       go_simp
     try go_frame
     refine gm_call [.agg (kc k), .int .u64 (a3 : Nat)] (by kernel_rfl) rfl rfl Stb.tt (fun w1 hw1 hF1 => (word_any k hW a3 L3.out w1).mono ?_)
     rintro e w2 ⟨rfl, hw2⟩
     refine ⟨_, rfl, hw2, ?_⟩
     clear hw1 hF1 w1 hw2 w2
     try go_frame
     rw [← HZ.out]
     refine gm_one (e := 54) (.tmp 61) rfl (.int .u64 (z : Nat)) rfl (fun _ => by kernel_rfl) Stb.tt (fun b1 hb1 => ?_)
     try go_frame
     refine gm_nil ?_
     intro w9 hw9 hF9
     simp only [List.drop]
     try go_frame
     have ST9 := ST.out.drew.gr hw9
     at_builtin
     refine wpList_app1 (w0 := w) rfl (.tmp 28) (.tmp 62) 71 rfl B 54 (.int .u64 0) 8 Tryz.underlying71 (by kernel_rfl) rfl (.slice (some ⟨g, 0, none⟩) t cap) t (L.map u64v) rfl (OW.out.drew.below hw9.below) ST9.bel ST9.sz b1 (.int .u64 (z : Nat)) rfl ((cell_of_row _ _ _ _ _ _ hF9.2).trans rfl) rfl (by omega) (by omega) ?_
     intro v' w' o' b' s' gr' ne'
     have STN := Box.mk (ST9.grown (OW.out.drew.below hw9.below) gr' b' s')
     have ON : Box (Own w' B 54 v' (t + 1) ((sched k.W k.s (t + 1 - 16) l).map u64v)) := ⟨by rw [HNX.out, List.map_append]; exact o'⟩
     have NE := Box.mk ne'
     clear ST9 o' b' s' gr' ne' hF9 hw9
     go_wp2_with fail
     exact ⟨⟨t + 1, by omega, by omega, by go_num, ON.out, NE.out, STN.out⟩, by simp [intOf]; omega⟩
   · obtain rfl : t = n := by omega
     clear hlt ht16 htn
     generalize hLLe : sched k.W k.s (t - 16) l = L at OW hLL hLT hcell
     have hLL : L.length = t := by have := HL.out; omega
     have sc0 : wr.cell? ⟨gs, 0, none⟩ = some (.int .u64 (v.a : Nat)) := (ST.out.bel.cell (p := ⟨gs, 0, none⟩) HGS.out).trans (HSC.out 0 (by decide))
     have sc1 : wr.cell? ⟨gs, 1, none⟩ = some (.int .u64 (v.b : Nat)) := (ST.out.bel.cell (p := ⟨gs, 1, none⟩) HGS.out).trans (HSC.out 1 (by decide))
     have sc2 : wr.cell? ⟨gs, 2, none⟩ = some (.int .u64 (v.c : Nat)) := (ST.out.bel.cell (p := ⟨gs, 2, none⟩) HGS.out).trans (HSC.out 2 (by decide))
     have sc3 : wr.cell? ⟨gs, 3, none⟩ = some (.int .u64 (v.d : Nat)) := (ST.out.bel.cell (p := ⟨gs, 3, none⟩) HGS.out).trans (HSC.out 3 (by decide))
     have sc4 : wr.cell? ⟨gs, 4, none⟩ = some (.int .u64 (v.e : Nat)) := (ST.out.bel.cell (p := ⟨gs, 4, none⟩) HGS.out).trans (HSC.out 4 (by decide))
     have sc5 : wr.cell? ⟨gs, 5, none⟩ = some (.int .u64 (v.f : Nat)) := (ST.out.bel.cell (p := ⟨gs, 5, none⟩) HGS.out).trans (HSC.out 5 (by decide))
     have sc6 : wr.cell? ⟨gs, 6, none⟩ = some (.int .u64 (v.g : Nat)) := (ST.out.bel.cell (p := ⟨gs, 6, none⟩) HGS.out).trans (HSC.out 6 (by decide))
     have sc7 : wr.cell? ⟨gs, 7, none⟩ = some (.int .u64 (v.h : Nat)) := (ST.out.bel.cell (p := ⟨gs, 7, none⟩) HGS.out).trans (HSC.out 7 (by decide))
     have HXC : Box (∀ j, j < t → wr.cell? ⟨g, j, none⟩ = some (.int .u64 (L.getD j 0 : Nat))) := ⟨fun j hj => hcell j _ (map_at L j (by omega))⟩
     have HKC2 : Box (∀ j, j < t → wr.cell? ⟨gK, j, none⟩ = some (.int .u64 (ks.getD j 0 : Nat))) := ⟨fun j hj => (ST.out.bel.cell (p := ⟨gK, j, none⟩) HGK.out).trans (HKC.out j hj)⟩
     have HSC2 : Box (∀ j, j < 8 → wr.cell? ⟨gs, j, none⟩ = some (.int .u64 (v.list.getD j 0 : Nat))) := ⟨fun j hj => (ST.out.bel.cell (p := ⟨gs, j, none⟩) HGS.out).trans (HSC.out j hj)⟩
     have HLT := Box.mk hLT; have HLL := Box.mk hLL; have HLE := Box.mk hLLe; have HBG := Box.mk hBg
     have GKL : Box (gK < wr.heap.size) := ⟨Nat.lt_of_lt_of_le HGK.out ST.out.sz⟩
     have GSL : Box (gs < wr.heap.size) := ⟨Nat.lt_of_lt_of_le HGS.out ST.out.sz⟩
     have HSCw := Box.mk HSC.out
     clear hLT hLL hLLe hBg hcell OW HKC HSC
     go_upto_region 5 with (fail)
     go_quiet (fail)
     generalize nq = mq
     go_upto_region 6 with (fail)
     go_quiet (fail)
     clear sc0 sc1 sc2 sc3 sc4 sc5 sc6 sc7 hKK
     go_wp2_with fail
     obtain ⟨wo, rfl⟩ : ∃ wo : World, wo = wr := ⟨_, rfl⟩
     have GR0 : Box (Gr wo ((wo.drewN mq).drewN nq)) := ⟨(fun h => (⟨h.os, h.tape, h.output, h.size, fun i hi => h.block i hi (by simp)⟩ : Below wo.heap.size wo _)) (((Upd.refl [] wo).drewN mq).trans ((Upd.refl [] _).drewN nq))⟩
     go_loopw [8, 9, 10, 11, 12, 13, 14, 15, 16] (fun xa xb xc xd xe xf xg xh i wx => ∃ j : Nat, j ≤ t ∧ i = .int .i64 j ∧ ∃ u : V8, u = rnds k.W k.s (ks.take j) (L.take j) v ∧ u.Ok k.W ∧ xa = .int .u64 (u.a : Nat) ∧ xb = .int .u64 (u.b : Nat) ∧ xc = .int .u64 (u.c : Nat) ∧ xd = .int .u64 (u.d : Nat) ∧ xe = .int .u64 (u.e : Nat) ∧ xf = .int .u64 (u.f : Nat) ∧ xg = .int .u64 (u.g : Nat) ∧ xh = .int .u64 (u.h : Nat) ∧ Gr wo wx) (fun _ _ _ _ _ _ _ _ i _ => t - (intOf i).toNat)
     case atStart => exact ⟨0, by omega, rfl, v, by simp [rnds], HV.out, rfl, rfl, rfl, rfl, rfl, rfl, rfl, rfl, GR0.out⟩
     case round =>
       clear GR0
       obtain ⟨wx, rfl⟩ : ∃ wx : World, wx = wr := ⟨_, rfl⟩
       obtain ⟨j, hj, rfl, u, hu, hok, rfl, rfl, rfl, rfl, rfl, rfl, rfl, rfl, gr⟩ := hrel
       have GR := Box.mk gr
       have HB : Box (wx.heap[b]? = some (.cells (kc k) 141 (0, 0))) := ⟨gr.block ST.out.kb⟩
       have hKK : wx.cell? ⟨b, 13, none⟩ = some (.slice (some ⟨gK, 0, none⟩) t capK) := by rw [cell_of_row _ _ _ _ _ _ HB.out, ← hK]; rfl
       have HOK := Box.mk hok; have HU := Box.mk hu
       clear gr hok hu
       by_cases hlt : j < t
       · have hstep := rnds_step k.W k.s ks L v j (by have := HN.out; omega) (by have := HLL.out; omega)
         rw [← HU.out] at hstep
         have hxc := HXC.out j hlt; have hkc := HKC2.out j hlt
         have hkl : ks.getD j 0 < 2 ^ 64 := getD_lt HKS.out j
         generalize ks.getD j 0 = kk at hkc hkl hstep
         generalize L.getD j 0 = xx at hxc hstep
         have hltI : (j : Int) < (t : Int) := by omega
         have hl := pw_le hW
         have ok := HOK.out
         have o1 : u.a < 18446744073709551616 := Nat.lt_of_lt_of_le ok.a hl
         have o2 : u.b < 18446744073709551616 := Nat.lt_of_lt_of_le ok.b hl
         have o3 : u.c < 18446744073709551616 := Nat.lt_of_lt_of_le ok.c hl
         have o5 : u.e < 18446744073709551616 := Nat.lt_of_lt_of_le ok.e hl
         have o6 : u.f < 18446744073709551616 := Nat.lt_of_lt_of_le ok.f hl
         have o7 : u.g < 18446744073709551616 := Nat.lt_of_lt_of_le ok.g hl
         have CE := Box.mk (three_any k hW u.e k.s.b ok.e (Nat.le_of_lt HS.out.b.a.2) (Nat.le_of_lt HS.out.b.b.2) (Nat.le_of_lt HS.out.b.c.2))
         have CA := Box.mk (three_any k hW u.a k.s.a ok.a (Nat.le_of_lt HS.out.a.a.2) (Nat.le_of_lt HS.out.a.b.2) (Nat.le_of_lt HS.out.a.c.2))
         obtain ⟨O, hO⟩ : ∃ O, O = one k.W k.s u kk xx := ⟨_, rfl⟩
         obtain ⟨T2, hT2⟩ : ∃ O, O = two k.W k.s u := ⟨_, rfl⟩
         have hR : round k.W k.s u kk xx = ⟨(O + T2) % 2 ^ k.W, u.a, u.b, u.c, (u.d + O) % 2 ^ k.W, u.e, u.f, u.g⟩ := by rw [hO, hT2]; rfl
         rw [hR] at hstep
         have hok2 := round_ok k.W k.s u kk xx ok
         rw [hR] at hok2
         unfold one at hO; unfold two at hT2
         generalize Sha.big k.W u.e k.s.b = m1 at CE hO
         generalize Sha.big k.W u.a k.s.a = m3 at CA hT2
         rw [← not_and hW u.e u.g ok.e ok.g, ← add5 hW] at hO
         rw [← add2 hW] at hT2
         rw [← add2 hW O T2, ← add2 hW u.d O] at hstep hok2
         have ba1 := bits64_and u.e u.f o5 o6
         have bn := bits64_not u.e o5
         have hne : 2 ^ 64 - 1 - u.e < 18446744073709551616 := by omega
         obtain ⟨ne, hne2⟩ : ∃ ne, ne = 2 ^ 64 - 1 - u.e := ⟨_, rfl⟩
         rw [← hne2] at bn hO hne
         have bn2 : bits BinOp.xor IntKind.u64 (if IntKind.u64.signed = true then -1 else IntKind.u64.max) (u.e : Int) = (ne : Int) := bn
         have ba2 := bits64_and ne u.g hne o7
         have p1l : u.e &&& u.f < 18446744073709551616 := Nat.and_lt_two_pow (n := 64) _ o6
         have p2l : ne &&& u.g < 18446744073709551616 := Nat.and_lt_two_pow (n := 64) _ o7
         obtain ⟨p1, hp1⟩ : ∃ p, p = u.e &&& u.f := ⟨_, rfl⟩
         obtain ⟨p2, hp2⟩ : ∃ p, p = ne &&& u.g := ⟨_, rfl⟩
         rw [← hp1] at ba1 p1l hO
         rw [← hp2] at ba2 p2l hO
         have bx1 := u64_xor_nat p1 p2 p1l p2l
         obtain ⟨p3, hp3⟩ : ∃ p, p = p1 ^^^ p2 := ⟨_, rfl⟩
         rw [← hp3] at bx1 hO
         obtain ⟨q1, hq1, hw1⟩ := wrapS u.h m1
         rw [← hq1] at hO
         obtain ⟨q2, hq2, hw2⟩ := wrapS q1 p3
         rw [← hq2] at hO
         obtain ⟨q3, hq3, hw3⟩ := wrapS q2 kk
         rw [← hq3] at hO
         obtain ⟨q4, hq4, hw4⟩ := wrapS q3 xx
         rw [← hq4] at hO
         have L4 : Box (q4 < 18446744073709551616) := ⟨by rw [hq4]; exact M_lt _⟩
         have bb1 := bits64_and u.a u.b o1 o2
         have bb2 := bits64_and u.a u.c o1 o3
         have bb3 := bits64_and u.b u.c o2 o3
         have r1l : u.a &&& u.b < 18446744073709551616 := Nat.and_lt_two_pow (n := 64) _ o2
         have r2l : u.a &&& u.c < 18446744073709551616 := Nat.and_lt_two_pow (n := 64) _ o3
         have r4l : u.b &&& u.c < 18446744073709551616 := Nat.and_lt_two_pow (n := 64) _ o3
         obtain ⟨r1, hr1⟩ : ∃ p, p = u.a &&& u.b := ⟨_, rfl⟩
         obtain ⟨r2, hr2⟩ : ∃ p, p = u.a &&& u.c := ⟨_, rfl⟩
         obtain ⟨r4, hr4⟩ : ∃ p, p = u.b &&& u.c := ⟨_, rfl⟩
         rw [← hr1] at bb1 r1l hT2
         rw [← hr2] at bb2 r2l hT2
         rw [← hr4] at bb3 r4l hT2
         have bx2 := u64_xor_nat r1 r2 r1l r2l
         have r3l : r1 ^^^ r2 < 18446744073709551616 := Nat.xor_lt_two_pow (n := 64) r1l r2l
         obtain ⟨r3, hr3⟩ : ∃ p, p = r1 ^^^ r2 := ⟨_, rfl⟩
         rw [← hr3] at bx2 r3l hT2
         have bx3 := u64_xor_nat r3 r4 r3l r4l
         obtain ⟨r5, hr5⟩ : ∃ p, p = r3 ^^^ r4 := ⟨_, rfl⟩
         rw [← hr5] at bx3 hT2
         obtain ⟨q5, hq5, hw5⟩ := wrapS m3 r5
         rw [← hq5] at hT2
         have L5 : Box (q5 < 18446744073709551616) := ⟨by rw [hq5]; exact M_lt _⟩
         obtain ⟨q6, hq6, hw6⟩ := wrapS u.d O
         obtain ⟨q7, hq7, hw7⟩ := wrapS O T2
         rw [← hq6, ← hq7] at hstep hok2
         have L6 : Box (q6 < 18446744073709551616) := ⟨by rw [hq6]; exact M_lt _⟩
         have L7 : Box (q7 < 18446744073709551616) := ⟨by rw [hq7]; exact M_lt _⟩
         obtain ⟨z6, hz6⟩ : ∃ z, z = q6 % 2 ^ k.W := ⟨_, rfl⟩
         obtain ⟨z7, hz7⟩ : ∃ z, z = q7 % 2 ^ k.W := ⟨_, rfl⟩
         rw [← hz6, ← hz7] at hstep hok2
         have HO := Box.mk hO; have HT2 := Box.mk hT2; have HZ6 := Box.mk hz6; have HZ7 := Box.mk hz7; have HST := Box.mk hstep; have HOK2 := Box.mk hok2; have HXx := Box.mk hxc; have HKx := Box.mk hkc
         clear hO hT2 hR hstep hok2 hxc hkc hkl hl ok o1 o2 o3 o5 o6 o7 hne hne2 p1l p2l hp1 hp2 hp3 hq1 hq2 hq3 hq4 r1l r2l r3l r4l hr1 hr2 hr3 hr4 hr5 hq5 hq6 hq7 hz6 hz7 HU HOK
         go_upto_region 10 with (fail)
         have HB2 : Box (wx.drew.heap[b]? = some (.cells (kc k) 141 (0, 0))) := ⟨HB.out⟩
         have GRd : Box (Gr wo wx.drew) := ⟨GR.out.trans (show Gr wx wx.drew from (Below.refl _ _).drew)⟩
         clear HB GR
         refine wp_region_mix 29 [.flo, .flo, .flo, .flo, .flo, .flo, .cha, .flo, .flo, .flo, .flo, .flo, .flo, .flo, .flo, .flo, .flo, .flo, .flo, .flo, .flo, .flo, .flo, .flo, .flo, .flo, .flo, .flo, .cha] (by kernel_rfl) (by kernel_rfl) rfl ?_
         simp only [List.take, List.zip, List.zipWith]
         try go_frame
         refine gm_loadK (.tmp 3) rfl b k HB2.out (by simp) rfl ?_
         try go_frame
         refine gm_flo (.int .u64 (u.h : Nat)) (fun w1 hw1 => ?_) ?_
         case refine_1 =>
           go_simp
         try go_frame
         refine gm_loadK (.tmp 3) rfl b k HB2.out (by simp) rfl ?_
         try go_frame
         refine gm_flo (.int .u64 (u.e : Nat)) (fun w1 hw1 => ?_) ?_
         case refine_1 =>
           go_simp
         try go_frame
         refine gm_flo (.pointer (some ⟨b, 4, none⟩)) (fun w1 hw1 => ?_) ?_
         case refine_1 =>
           go_simp
         try go_frame
         refine gm_loadT (.tmp 99) rfl b 4 k k.s.b HB2.out (by simp) rfl (kc_B k) ?_
         try go_frame
         refine gm_call [.agg (kc k), .int .u64 (u.e : Nat), .agg (tc k.s.b)] (by kernel_rfl) rfl rfl Stb.tt (fun w1 hw1 hF1 => (CE.out w1).mono ?_)
         rintro e w2 ⟨rfl, hw2⟩
         refine ⟨_, rfl, hw2, ?_⟩
         clear hw1 hF1 w1 hw2 w2
         try go_frame
         refine gm_flo (.int .u64 (q1 : Nat)) (fun w1 hw1 => ?_) ?_
         case refine_1 =>
           go_simp
         try go_frame
         refine gm_flo (.int .u64 (u.e : Nat)) (fun w1 hw1 => ?_) ?_
         case refine_1 =>
           go_simp
         try go_frame
         refine gm_flo (.int .u64 (u.f : Nat)) (fun w1 hw1 => ?_) ?_
         case refine_1 =>
           go_simp
         try go_frame
         refine gm_flo (.int .u64 (p1 : Nat)) (fun w1 hw1 => ?_) ?_
         case refine_1 =>
           go_simp
         try go_frame
         refine gm_flo (.int .u64 (u.e : Nat)) (fun w1 hw1 => ?_) ?_
         case refine_1 =>
           go_simp
         try go_frame
         refine gm_flo (.int .u64 (ne : Nat)) (fun w1 hw1 => ?_) ?_
         case refine_1 =>
           go_simp
         try go_frame
         refine gm_flo (.int .u64 (u.g : Nat)) (fun w1 hw1 => ?_) ?_
         case refine_1 =>
           go_simp
         try go_frame
         refine gm_flo (.int .u64 (p2 : Nat)) (fun w1 hw1 => ?_) ?_
         case refine_1 =>
           go_simp
         try go_frame
         refine gm_flo (.int .u64 (p3 : Nat)) (fun w1 hw1 => ?_) ?_
         case refine_1 =>
           go_simp
         try go_frame
         refine gm_flo (.int .u64 (q2 : Nat)) (fun w1 hw1 => ?_) ?_
         case refine_1 =>
           go_simp
         try go_frame
         refine gm_flo (.pointer (some ⟨b, 13, none⟩)) (fun w1 hw1 => ?_) ?_
         case refine_1 =>
           go_simp
         try go_frame
         refine gm_flo (.slice (some ⟨gK, 0, none⟩) t capK) (fun w1 hw1 => ?_) ?_
         case refine_1 =>
           have hc : w1.cell? ⟨b, 13, none⟩ = some (.slice (some ⟨gK, 0, none⟩) t capK) := (cellG hw1 HB2.out (by simp) 13).trans (by rw [← hK]; rfl)
           go_simp
         try go_frame
         refine gm_flo (.int .i64 (j : Nat)) (fun w1 hw1 => ?_) ?_
         case refine_1 =>
           go_simp
         try go_frame
         refine gm_flo (.pointer (some ⟨gK, j, none⟩)) (fun w1 hw1 => ?_) ?_
         case refine_1 =>
           go_simp
         try go_frame
         refine gm_flo (.int .u64 (kk : Nat)) (fun w1 hw1 => ?_) ?_
         case refine_1 =>
           have hc := cellW (GRd.out.toS []  |>.trans hw1) GKL.out HKx.out
           go_simp
         try go_frame
         refine gm_flo (.int .u64 (q3 : Nat)) (fun w1 hw1 => ?_) ?_
         case refine_1 =>
           go_simp
         try go_frame
         refine gm_flo (.slice (some ⟨g, 0, none⟩) t cap) (fun w1 hw1 => ?_) ?_
         case refine_1 =>
           go_simp
         try go_frame
         refine gm_flo (.int .i64 (j : Nat)) (fun w1 hw1 => ?_) ?_
         case refine_1 =>
           go_simp
         try go_frame
         refine gm_flo (.pointer (some ⟨g, j, none⟩)) (fun w1 hw1 => ?_) ?_
         case refine_1 =>
           go_simp
         try go_frame
         refine gm_flo (.int .u64 (xx : Nat)) (fun w1 hw1 => ?_) ?_
         case refine_1 =>
           have hc := cellW (GRd.out.toS [] |>.trans hw1) GL.out HXx.out
           go_simp
         try go_frame
         refine gm_flo (.int .u64 (q4 : Nat)) (fun w1 hw1 => ?_) ?_
         case refine_1 =>
           go_simp
         try go_frame
         refine gm_call [.agg (kc k), .int .u64 (q4 : Nat)] (by kernel_rfl) rfl rfl Stb.tt (fun w1 hw1 hF1 => (word_any k hW q4 L4.out w1).mono ?_)
         rintro e w2 ⟨rfl, hw2⟩
         refine ⟨_, rfl, hw2, ?_⟩
         clear hw1 hF1 w1 hw2 w2
         try go_frame
         rw [← HO.out]
         refine gm_nil ?_
         intro w3 hw9 hF9
         simp only [List.drop]
         try go_frame
         have HB3 : Box (w3.drew.heap[b]? = some (.cells (kc k) 141 (0, 0))) := ⟨hw9.block HB2.out⟩
         have GR3 : Box (Gr wo w3.drew) := ⟨(GRd.out.trans hw9).trans (show Gr w3 w3.drew from (Below.refl _ _).drew)⟩
         clear HB2 GRd hw9 hF9
         go_upto_region 11 with (fail)
         refine wp_region_mix 19 [.flo, .flo, .flo, .flo, .flo, .cha, .flo, .flo, .flo, .flo, .flo, .flo, .flo, .flo, .flo, .flo, .flo, .flo, .cha] (by kernel_rfl) (by kernel_rfl) rfl ?_
         simp only [List.take, List.zip, List.zipWith]
         try go_frame
         refine gm_loadK (.tmp 3) rfl b k HB3.out (by simp) rfl ?_
         try go_frame
         refine gm_loadK (.tmp 3) rfl b k HB3.out (by simp) rfl ?_
         try go_frame
         refine gm_flo (.int .u64 (u.a : Nat)) (fun w1 hw1 => ?_) ?_
         case refine_1 =>
           go_simp
         try go_frame
         refine gm_flo (.pointer (some ⟨b, 1, none⟩)) (fun w1 hw1 => ?_) ?_
         case refine_1 =>
           go_simp
         try go_frame
         refine gm_loadT (.tmp 127) rfl b 1 k k.s.a HB3.out (by simp) rfl (kc_A k) ?_
         try go_frame
         refine gm_call [.agg (kc k), .int .u64 (u.a : Nat), .agg (tc k.s.a)] (by kernel_rfl) rfl rfl Stb.tt (fun w1 hw1 hF1 => (CA.out w1).mono ?_)
         rintro e w2 ⟨rfl, hw2⟩
         refine ⟨_, rfl, hw2, ?_⟩
         clear hw1 hF1 w1 hw2 w2
         try go_frame
         refine gm_flo (.int .u64 (u.a : Nat)) (fun w1 hw1 => ?_) ?_
         case refine_1 =>
           go_simp
         try go_frame
         refine gm_flo (.int .u64 (u.b : Nat)) (fun w1 hw1 => ?_) ?_
         case refine_1 =>
           go_simp
         try go_frame
         refine gm_flo (.int .u64 (r1 : Nat)) (fun w1 hw1 => ?_) ?_
         case refine_1 =>
           go_simp
         try go_frame
         refine gm_flo (.int .u64 (u.a : Nat)) (fun w1 hw1 => ?_) ?_
         case refine_1 =>
           go_simp
         try go_frame
         refine gm_flo (.int .u64 (u.c : Nat)) (fun w1 hw1 => ?_) ?_
         case refine_1 =>
           go_simp
         try go_frame
         refine gm_flo (.int .u64 (r2 : Nat)) (fun w1 hw1 => ?_) ?_
         case refine_1 =>
           go_simp
         try go_frame
         refine gm_flo (.int .u64 (r3 : Nat)) (fun w1 hw1 => ?_) ?_
         case refine_1 =>
           go_simp
         try go_frame
         refine gm_flo (.int .u64 (u.b : Nat)) (fun w1 hw1 => ?_) ?_
         case refine_1 =>
           go_simp
         try go_frame
         refine gm_flo (.int .u64 (u.c : Nat)) (fun w1 hw1 => ?_) ?_
         case refine_1 =>
           go_simp
         try go_frame
         refine gm_flo (.int .u64 (r4 : Nat)) (fun w1 hw1 => ?_) ?_
         case refine_1 =>
           go_simp
         try go_frame
         refine gm_flo (.int .u64 (r5 : Nat)) (fun w1 hw1 => ?_) ?_
         case refine_1 =>
           go_simp
         try go_frame
         refine gm_flo (.int .u64 (q5 : Nat)) (fun w1 hw1 => ?_) ?_
         case refine_1 =>
           go_simp
         try go_frame
         refine gm_call [.agg (kc k), .int .u64 (q5 : Nat)] (by kernel_rfl) rfl rfl Stb.tt (fun w1 hw1 hF1 => (word_any k hW q5 L5.out w1).mono ?_)
         rintro e w2 ⟨rfl, hw2⟩
         refine ⟨_, rfl, hw2, ?_⟩
         clear hw1 hF1 w1 hw2 w2
         try go_frame
         rw [← HT2.out]
         refine gm_nil ?_
         intro w4 hw9 hF9
         simp only [List.drop]
         try go_frame
         have HB4 : Box (w4.heap[b]? = some (.cells (kc k) 141 (0, 0))) := ⟨hw9.block HB3.out⟩
         have GR4 : Box (Gr wo w4) := ⟨GR3.out.trans hw9⟩
         clear HB3 GR3 hw9 hF9
         go_upto_region 15 with (fail)
         refine wp_region_seq 5 [.flo, .flo, .flo, .flo, .cha] (by rfl) rfl (by decide) ?_
         simp only [List.take, List.zip, List.zipWith]
         try go_frame
         refine gm_loadK (.tmp 3) rfl b k HB4.out (by simp) rfl ?_
         try go_frame
         refine gm_flo (.int .u64 (u.d : Nat)) (fun w1 hw1 => ?_) ?_
         case refine_1 =>
           go_simp
         try go_frame
         refine gm_flo (.int .u64 (O : Nat)) (fun w1 hw1 => ?_) ?_
         case refine_1 =>
           go_simp
         try go_frame
         refine gm_flo (.int .u64 (q6 : Nat)) (fun w1 hw1 => ?_) ?_
         case refine_1 =>
           go_simp
         try go_frame
         refine gm_call [.agg (kc k), .int .u64 (q6 : Nat)] (by kernel_rfl) rfl rfl Stb.tt (fun w1 hw1 hF1 => (word_any k hW q6 L6.out w1).mono ?_)
         rintro e w2 ⟨rfl, hw2⟩
         refine ⟨_, rfl, hw2, ?_⟩
         clear hw1 hF1 w1 hw2 w2
         try go_frame
         rw [← HZ6.out]
         refine gm_nil ?_
         intro w5 hw9 hF9
         simp only [List.drop]
         try go_frame
         have HB5 : Box (w5.heap[b]? = some (.cells (kc k) 141 (0, 0))) := ⟨hw9.block HB4.out⟩
         have GR5 : Box (Gr wo w5) := ⟨GR4.out.trans hw9⟩
         clear HB4 GR4 hw9 hF9
         go_upto_region 19 with (fail)
         refine wp_region_seq 5 [.flo, .flo, .flo, .flo, .cha] (by rfl) rfl (by decide) ?_
         simp only [List.take, List.zip, List.zipWith]
         try go_frame
         refine gm_loadK (.tmp 3) rfl b k HB5.out (by simp) rfl ?_
         try go_frame
         refine gm_flo (.int .u64 (O : Nat)) (fun w1 hw1 => ?_) ?_
         case refine_1 =>
           go_simp
         try go_frame
         refine gm_flo (.int .u64 (T2 : Nat)) (fun w1 hw1 => ?_) ?_
         case refine_1 =>
           go_simp
         try go_frame
         refine gm_flo (.int .u64 (q7 : Nat)) (fun w1 hw1 => ?_) ?_
         case refine_1 =>
           go_simp
         try go_frame
         refine gm_call [.agg (kc k), .int .u64 (q7 : Nat)] (by kernel_rfl) rfl rfl Stb.tt (fun w1 hw1 hF1 => (word_any k hW q7 L7.out w1).mono ?_)
         rintro e w2 ⟨rfl, hw2⟩
         refine ⟨_, rfl, hw2, ?_⟩
         clear hw1 hF1 w1 hw2 w2
         try go_frame
         rw [← HZ7.out]
         refine gm_nil ?_
         intro w6 hw9 hF9
         simp only [List.drop]
         try go_frame
         have GR6 : Box (Gr wo w6) := ⟨GR5.out.trans hw9⟩
         clear HB5 GR5 hw9 hF9
         go_wp2_with fail
         exact ⟨⟨j + 1, by omega, by go_num, ⟨z7, u.a, u.b, u.c, z6, u.e, u.f, u.g⟩, HST.out.symm, HOK2.out, rfl, rfl, rfl, rfl, rfl, rfl, rfl, rfl, GR6.out⟩, by simp [intOf]; omega⟩
       · obtain rfl : j = t := by omega
         have hend : u = rnds k.W k.s ks L v := by rw [HU.out, List.take_of_length_le (by have := HN.out; omega), List.take_of_length_le (by have := HLL.out; omega)]
         have hblk : blk k.W k.s ks v l = plus k.W u v := by unfold blk; rw [HN.out, HL.out, HLE.out, ← hend, plus_comm]
         have HBLK := Box.mk hblk
         clear hlt hj hend hblk HU
         go_upto_region 21 with (fail)
         obtain ⟨b8, hb8⟩ : ∃ b8, b8 = wx.heap.size := ⟨_, rfl⟩
         have R0 : Box ((wx.alloc (.cells (v8c64 (mixV k.W 0 u v)) 54)).heap[b8]? = some (.cells (v8c64 (mixV k.W 0 u v)) 54 (0, 0))) := ⟨by rw [hb8]; exact heap_alloc_new wx _⟩
         have ST8 : Box (BSt w B b k (wx.alloc (.cells (v8c64 (mixV k.W 0 u v)) 54))) := ⟨(ST.out.gr GR.out).gr (Gr.alloc _ _)⟩
         have GR8 : Box (Gr wo (wx.alloc (.cells (v8c64 (mixV k.W 0 u v)) 54))) := ⟨GR.out.trans (Gr.alloc _ _)⟩
         have hwb : w.heap.size ≤ wo.heap.size := ST.out.bel.size
         have HWB : Box (w.heap.size ≤ b8) := ⟨Nat.le_trans hwb (by rw [hb8]; exact GR.out.size)⟩
         have HGB : Box (gs ≠ b8) := ⟨by have := HGS.out; have := HBb.out; have := HEB.out; have := HWB.out; omega⟩
         have HBB : Box (b ≠ b8) := ⟨Nat.ne_of_lt (by rw [hb8]; exact (Array.getElem?_eq_some_iff.1 HB.out).1)⟩
         have HBs : Box (B ≤ b8) := ⟨by have := HBb.out; have := HEB.out; have := HWB.out; omega⟩
         rw [← hb8]
         clear hb8 hwb
         rw [show #[Value.int IntKind.u64 (u.a : Nat), .int .u64 (u.b : Nat), .int .u64 (u.c : Nat), .int .u64 (u.d : Nat), .int .u64 (u.e : Nat), .int .u64 (u.f : Nat), .int .u64 (u.g : Nat), .int .u64 (u.h : Nat)] = v8c64 (mixV k.W 0 u v) from rfl]
         generalize wx.alloc (.cells (v8c64 (mixV k.W 0 u v)) 54) = w8 at R0 ST8 GR8 ⊢
         go_wp2_with fail
         go_loopw [20] (fun i wy => ∃ q : Nat, q ≤ 8 ∧ i = .int .i64 q ∧ wy.heap[b8]? = some (.cells (v8c64 (mixV k.W q u v)) 54 (0, 0)) ∧ BSt w B b k wy) (fun i _ => 8 - (intOf i).toNat)
         case atStart => exact ⟨0, by omega, rfl, R0.out, ST8.out⟩
         case round =>
           clear R0 ST8 GR8 GR HB ST
           obtain ⟨wy, rfl⟩ : ∃ wy : World, wy = wr := ⟨_, rfl⟩
           obtain ⟨q, hq, rfl, row, st⟩ := hrel
           have ROW := Box.mk row; have ST := Box.mk st
           clear row st
           by_cases hlt : q < 8
           · have hqI : (q : Int) < 8 := by omega
             have c1 : wy.cell? ⟨b8, q, none⟩ = some (.int .u64 (u.list.getD q 0 : Nat)) := by
               rw [cell_of_row _ _ _ _ _ _ ROW.out, v8c64_cell _ hlt, mixV_at _ _ hlt]
             have c2 : wy.cell? ⟨gs, q, none⟩ = some (.int .u64 (v.list.getD q 0 : Nat)) := (ST.out.bel.cell (p := ⟨gs, q, none⟩) HGS.out).trans (HSCw.out q hlt)
             have hset := v8c64_set k.W q hlt u v
             generalize u.list.getD q 0 = y1 at c1 hset
             generalize v.list.getD q 0 = y2 at c2 hset
             obtain ⟨a1, ha1, hw1⟩ := wrapS y1 y2
             rw [← add2 hW, ← ha1] at hset
             have L1 : Box (a1 < 18446744073709551616) := ⟨by rw [ha1]; exact M_lt _⟩
             obtain ⟨z, hz⟩ : ∃ z, z = a1 % 2 ^ k.W := ⟨_, rfl⟩
             have HZ := Box.mk hz
             rw [← hz] at hset
             have HSET := Box.mk (hset z rfl); have HC1 := Box.mk c1; have HC2 := Box.mk c2
             clear hset ha1 hz c1 c2
             go_upto_region 24 with (fail)
             have HB : Box (wy.drew.heap[b]? = some (.cells (kc k) 141 (0, 0))) := ⟨ST.out.kb⟩
             have l8 : Box (b8 < wy.drew.heap.size) := ⟨(Array.getElem?_eq_some_iff.1 ROW.out).1⟩
             have ls : Box (gs < wy.drew.heap.size) := ⟨Nat.lt_of_lt_of_le HGS.out ST.out.sz⟩
             refine wp_region_mix 14 [.flo, .flo, .flo, .flo, .flo, .flo, .flo, .flo, .flo, .flo, .flo, .flo, .cha, .flo] (by kernel_rfl) (by kernel_rfl) rfl ?_
             simp only [List.take, List.zip, List.zipWith]
             try go_frame
             refine gm_flo (.slice (some ⟨b8, 0, none⟩) 8 8) (fun w1 hw1 => ?_) ?_
             case refine_1 =>
               go_simp
             try go_frame
             refine gm_flo (.int .i64 (q : Nat)) (fun w1 hw1 => ?_) ?_
             case refine_1 =>
               go_simp
             try go_frame
             refine gm_loadK (.tmp 3) rfl b k HB.out (by simp) rfl ?_
             try go_frame
             refine gm_flo (.slice (some ⟨b8, 0, none⟩) 8 8) (fun w1 hw1 => ?_) ?_
             case refine_1 =>
               go_simp
             try go_frame
             refine gm_flo (.int .i64 (q : Nat)) (fun w1 hw1 => ?_) ?_
             case refine_1 =>
               go_simp
             try go_frame
             refine gm_flo (.pointer (some ⟨b8, q, none⟩)) (fun w1 hw1 => ?_) ?_
             case refine_1 =>
               go_simp
             try go_frame
             refine gm_flo (.int .u64 (y1 : Nat)) (fun w1 hw1 => ?_) ?_
             case refine_1 =>
               have hc := cellW hw1 l8.out HC1.out
               go_simp
             try go_frame
             refine gm_flo (.slice (some ⟨gs, 0, none⟩) 8 cs) (fun w1 hw1 => ?_) ?_
             case refine_1 =>
               go_simp
             try go_frame
             refine gm_flo (.int .i64 (q : Nat)) (fun w1 hw1 => ?_) ?_
             case refine_1 =>
               go_simp
             try go_frame
             refine gm_flo (.pointer (some ⟨gs, q, none⟩)) (fun w1 hw1 => ?_) ?_
             case refine_1 =>
               go_simp
             try go_frame
             refine gm_flo (.int .u64 (y2 : Nat)) (fun w1 hw1 => ?_) ?_
             case refine_1 =>
               have hc := cellW hw1 ls.out HC2.out
               go_simp
             try go_frame
             refine gm_flo (.int .u64 (a1 : Nat)) (fun w1 hw1 => ?_) ?_
             case refine_1 =>
               go_simp
             try go_frame
             refine gm_call [.agg (kc k), .int .u64 (a1 : Nat)] (by kernel_rfl) rfl rfl Stb.tt (fun w1 hw1 hF1 => (word_any k hW a1 L1.out w1).mono ?_)
             rintro e w2 ⟨rfl, hw2⟩
             refine ⟨_, rfl, hw2, ?_⟩
             clear hw1 hF1 w1 hw2 w2
             try go_frame
             rw [← HZ.out]
             refine gm_flo (.pointer (some ⟨b8, q, none⟩)) (fun w1 hw1 => ?_) ?_
             case refine_1 =>
               go_simp
             try go_frame
             refine gm_nil ?_
             intro w7 hw9 hF9
             simp only [List.drop]
             try go_frame
             have hf : w7.frozen? ⟨b8, q, none⟩ = false := frozen_of_row _ _ _ _ _ (hw9.block (show wy.drew.heap[b8]? = _ from ROW.out))
             have hcc : w7.cell? ⟨b8, q, none⟩ = some (.int .u64 (y1 : Nat)) := cellW (hw9.toS []) l8.out HC1.out
             have ST7 := Box.mk (ST.out.drew.gr hw9)
             have RW7 := Box.mk (hw9.block (show wy.drew.heap[b8]? = _ from ROW.out))
             clear hw9 hF9 HB l8 ls
             go_wp2_with fail
             refine ⟨⟨q + 1, by omega, by go_num, ?_, ?_, ?_, ?_⟩, by simp [intOf]; omega⟩
             · rw [heap_setCell_same _ _ _ _ _ _ RW7.out, HSET.out]
             · exact ST7.out.bel.setCell HBs.out _
             · simpa using ST7.out.sz
             · rw [heap_setCell_other _ _ _ _ HBB.out]; exact ST7.out.kb
           · obtain rfl : q = 8 := by omega
             have row := ROW.out
             rw [mixV_all, ← HBLK.out] at row
             have ROW := Box.mk row
             clear hlt row
             go_wp2_with fail
             go_ret
             exact ⟨b8, rfl, HWB.out, (Array.getElem?_eq_some_iff.1 ROW.out).1, fun j hj => by rw [cell_of_row _ _ _ _ _ _ ROW.out, v8c64_cell _ hj], ST.out.bel⟩
end Go.Proofs.YtafhncpaoolljaaGreat.Big
namespace Go.Proofs.YtafhncpaoolljaaGreat
set_option maxRecDepth 100000
set_option linter.unusedVariables false
open Go Go.RowKit
theorem Own.base {w : World} {base base' n : Nat} {e : TypeId} {v : Value} {xs : List Value} (h : Own w base e v n xs) (hb : base' ≤ base) : Own w base' e v n xs := by
 refine ⟨h.1, ?_⟩
 rcases h.2 with ⟨a, b⟩ | ⟨g, cap, cur, fr, rfl, b, c⟩
 · exact .inl ⟨a, b⟩
 · exact .inr ⟨g, cap, cur, fr, rfl, Nat.le_trans hb b, c⟩
theorem run_append_OwnB {P : Program} (w : World) (base : Nat) (t ty e : TypeId) (z : Value) (by_ : Nat) (ht : P.underlying t = some (.slice e)) (hi : (P.info? e).map (fun i => (i.zero, i.size, i.bytes)) = some (some z, 1, by_)) (hz : z.cells.size = 1)
   (v : Value) (n : Nat) (xs : List Value) (hown : Own w base e v n xs) (a : Addr) (m c : Nat) (news : List Value) (hl : news.length = m) (hnews : ∀ j u, news[j]? = some u → w.cell? (a.add j) = some u) (h1 : ∀ u ∈ news, u.oneCell' = true)
   (hm : 0 < m) (hn : n + m ≤ 1000000000) (hby : by_ ≤ 16) (hbase : base ≤ w.heap.size) :
   ∃ v' w', (Builtin.append_ #[t, t] ty #[v, .slice (some a) m c]).run P w = .ok v' w' ∧ Own w' base e v' (n + m) (xs ++ news) ∧ w.grownBy w' v.ownBlock ∧ v' ≠ .slice none 0 0 ∧ ∀ k, v'.ownBlock = some k → v.ownBlock = some k ∨ w.heap.size ≤ k := by
 obtain ⟨i0, hi0, hz0, hz1, hz2⟩ := info_parts hi
 have hlen : (xs ++ news).length = n + m := by rw [List.length_append, hown.1, hl]
 have hbytes : (n + m) * by_ ≤ 140737488355328 := by
   have : (n + m) * by_ ≤ (n + m) * 16 := Nat.mul_le_mul (Nat.le_refl _) hby
   omega
 have h63 : n + m ≤ maxLen := by unfold maxLen; omega
 rcases hown.2 with ⟨rfl, rfl⟩ | ⟨g, cap, cur, fr, rfl, hbg, hg, hnc, hcm, hcs, htake, hfr⟩
 · have hx : xs = [] := List.eq_nil_of_length_eq_zero hown.1
   subst hx
   obtain ⟨v', w', r1, r2, r3, r4⟩ := run_append_own (P := P) w w.heap.size t ty e i0 z 1 by_ ht hi0 hz0 hz1 hz2 hz (by decide) (.slice none 0 0) 0 [] (World.ownsRow_nil _ _ _ _) a m c news (by rw [hl, Nat.mul_one]) hnews h1 h63 hbytes (Nat.le_refl _)
   have ro := Own.of r2
   exact ⟨v', w', r1, ro.base hbase, r3, (fun e => by have := (r4.1 e).2; omega), fun k hk => .inr (ro.lt k hk).1⟩
 · by_cases hroom : n + m ≤ cap
   · have hr := run_append_room_cells (P := P) (w := w) t ty e i0 ht hi0 g 0 n cap a m c news (by rw [hl, hz1, Nat.mul_one]) hnews h1 hroom (fun j hj => by
       rw [hz1, Nat.zero_add, Nat.mul_one, cell_of_row _ _ _ _ _ _ hg, Array.getElem?_eq_getElem (by omega)]; rfl) (fun j hj => by
       rw [hz1, Nat.zero_add, Nat.mul_one]
       simp only [World.frozen?, hg]
       rcases hfr with hfr | hfr
       · rw [hfr]; simp
       · have : ¬ fr.1 ≤ n + j := by omega
         simp [this])
     rw [hz1, Nat.zero_add, Nat.mul_one] at hr
     have hset : ∀ (vs : List Value) (o : Nat) (W : World) (C : Array Value), W.heap[g]? = some (.cells C e fr) → o + vs.length ≤ C.size → ∃ C', (W.setCells g o vs).heap[g]? = some (.cells C' e fr) ∧ C'.size = C.size ∧ C'.toList.take (o + vs.length) = C.toList.take o ++ vs := by
       intro vs
       induction vs with
       | nil => intro o W C hC _; exact ⟨C, hC, rfl, by simp⟩
       | cons u vs ih =>
         intro o W C hC hle
         rw [List.length_cons] at hle
         obtain ⟨C', q1, q2, q3⟩ := ih (o + 1) (W.setCell ⟨g, o, none⟩ u) (C.setIfInBounds o u) (by rw [heap_set, if_pos rfl, hC]; rfl) (by simp; omega)
         refine ⟨C', q1, by simpa using q2, ?_⟩
         rw [List.length_cons, show o + (vs.length + 1) = o + 1 + vs.length from by omega, q3, Array.toList_setIfInBounds, List.take_succ_eq_append_getElem (by simp; omega), List.take_set_of_le (by omega)]
         simp
     obtain ⟨C', q1, q2, q3⟩ := hset news n w cur hg (by omega)
     refine ⟨_, _, hr, ⟨hlen, .inr ⟨g, cap, C', fr, rfl, hbg, q1, hroom, hcm, q2.trans hcs, ?_, hfr⟩⟩, ⟨?_, ?_, ?_, ?_, ?_⟩, by simp, fun k hk => .inl hk⟩
     · rw [← hl, q3, htake]
     · exact (upd_setCells g news n w).os
     · exact (upd_setCells g news n w).tape
     · exact (upd_setCells g news n w).output
     · exact (upd_setCells g news n w).size
     · intro k hk hne
       exact (upd_setCells g news n w).block k hk (by simp only [List.mem_singleton]; intro e; exact hne (by simp [Value.ownBlock, e]))
   · have holds : ∀ j u, xs[j]? = some u → w.cell? ((⟨g, 0, none⟩ : Addr).add j) = some u := by
       intro j u hu
       rw [show ((⟨g, 0, none⟩ : Addr).add j) = ⟨g, j, none⟩ from by unfold Addr.add; split <;> simp_all, cell_of_row _ _ _ _ _ _ hg]
       rw [← htake, List.getElem?_take] at hu
       split at hu
       · simpa using hu
       · cases hu
     have hr := run_append_grow (P := P) w t ty e i0 z ht hi0 hz0 ⟨g, 0, none⟩ n cap xs (by rw [hz1, Nat.mul_one]; exact hown.1) holds a m c news (by rw [hz1, Nat.mul_one]; exact hl) hnews (by omega) (by omega) (growslice_fits (by omega) (by rw [hz2]; exact hbytes))
     have hge := grownCap_ge w (n + m) cap e
     have hcm' : grownCap w (n + m) cap e ≤ maxLen := grownCap_le_maxLen w (n + m) cap e h63
     refine ⟨_, _, hr, ⟨hlen, .inr ⟨w.heap.size, _, _, (0, 0), rfl, hbase, heap_alloc_new w.drew _, hge, hcm', ?_, ?_, .inl rfl⟩⟩, ⟨rfl, rfl, rfl, by simp, fun k hk _ => heap_alloc_old w.drew _ hk⟩, by simp, fun k hk => .inr (by simp [Value.ownBlock] at hk; omega)⟩
     · simp only [Array.size_append, List.size_toArray, size_zeroCells, hz, hown.1, hl]
       omega
     · simp only [Array.toList_append, List.append_assoc]
       rw [← List.append_assoc, ← hlen]
       exact List.take_left
section
variable {P : Program} {W : World} {S : List Nat} {T : (World → Prop) → List Nat → Act → Prop} {L : List (Oper × Kd)} {F : World → Prop} {N : List Nat} {a : Act} {o : Oper}
theorem gm_app1 (s x : Operand) (t : TypeId) (ho : o.op = .call { callee := .builtin .append, args := #[s, x], argTypes := #[t, t] })
   (B : Nat) (e : TypeId) (z : Value) (by_ : Nat) (ht : P.underlying t = some (.slice e)) (hi : (P.info? e).map (fun i => (i.zero, i.size, i.bytes)) = some (some z, 1, by_)) (hz : z.cells.size = 1)
   (v : Value) (n : Nat) (xs : List Value) (hs : a.eval s = v) (g : Nat) (y : Value) (hx : a.eval x = .slice (some ⟨g, 0, none⟩) 1 1) (h1 : y.oneCell' = true) (hn : n + 1 ≤ 1000000000) (hby : by_ ≤ 16)
   (hS : ∀ k, v.ownBlock = some k → k ∈ S) (hF : ∀ w, GrS S W w → F w → Own w B e v n xs ∧ B ≤ w.heap.size ∧ w.cell? ⟨g, 0, none⟩ = some y)
   (h : ∀ v', v' ≠ .slice none 0 0 → (∀ k, v'.ownBlock = some k → v.ownBlock = some k ∨ W.heap.size ≤ k) → wpG P W S T L (fun w => Own w B e v' (n + 1) (xs ++ [y])) N (a.put o.dst v')) : wpG P W S T ((o, .cha) :: L) F N a := by
 intro w hw hFw
 obtain ⟨own, hB, hy⟩ := hF w hw hFw
 obtain ⟨v', w', r1, r2, r3, r4, r5⟩ := run_append_OwnB (P := P) w B t o.type e z by_ ht hi hz v n xs own ⟨g, 0, none⟩ 1 1 [y] rfl (fun j u hj => by
   match j, hj with
   | 0, hj => simp at hj; subst hj; simpa [Addr.add] using hy) (fun u hu => by simp at hu; subst hu; exact h1) (by decide) hn hby hB
 refine .inr (.inr ⟨v', w', ?_, ?_, _, [], ?_, r2, (fun _ hb => by cases hb), h v' r4 (fun k hk => (r5 k hk).imp id (Nat.le_trans hw.size))⟩)
 · simp [execOp, ho, resolve, invoke, builtin, hs, hx, r1, Result.andThen]
 · exact (GrS.mk r3.os r3.tape r3.output r3.size (fun k hk hn => r3.block k hk (fun e => hn (hS k e.symm)))).d
 · exact fun w1 w2 hg ho => ho.below hg
end
end Go.Proofs.YtafhncpaoolljaaGreat
namespace Go.Proofs.YtafhncpaoolljaaGreat.Big
set_option maxRecDepth 100000
set_option linter.unusedVariables false
open Go Go.RowKit
open Sha
def kz : KV := ⟨0, ⟨⟨0, 0, 0⟩, ⟨0, 0, 0⟩, ⟨0, 0, 0⟩, ⟨0, 0, 0⟩⟩, .slice none 0 0, .slice none 0 0⟩
theorem kc_one (k : KV) (hK : k.K.oneCell' = true) (hH : k.H.oneCell' = true) : (kc k).all (·.oneCell') = true := by
 simp [kc, iv, Value.oneCell']
 simp [Value.oneCell'] at hK hH
 exact ⟨hK, hH⟩
theorem kc_setK (W : Nat) (s : Sh) (a b c : Value) : (kc ⟨W, s, a, b⟩).setIfInBounds 13 c = kc ⟨W, s, c, b⟩ := rfl
theorem kc_setH (W : Nat) (s : Sh) (a b c : Value) : (kc ⟨W, s, a, b⟩).setIfInBounds 14 c = kc ⟨W, s, a, c⟩ := rfl
theorem wpList_storeK {ops : Array Oper} {rest : List Oper} {o : Oper} {a : Act} {w : World} {Q : Exit → Act → World → Prop} (hgd : o.guard = none) (x y : Operand) (ho : o.op = .store 141 x y)
   (g : Nat) (k k0 : KV) (hk : (kc k).all (·.oneCell') = true) (hg : w.heap[g]? = some (.cells (kc k0) 141 (0, 0))) (hx : a.eval x = .pointer (some ⟨g, 0, none⟩)) (hy : a.eval y = .agg (kc k))
   (h : wpList Tryz.prog ops Q rest (a.put o.dst undef) (w.setRow g (kc k))) : wpList Tryz.prog ops Q (o :: rest) a w :=
 wpList_store_row hgd 141 x y ho g (kc k) hx hy 141 (kc k0) hg (by kernel_rfl) rfl hk h
theorem wpList_loadK {ops : Array Oper} {rest : List Oper} {o : Oper} {a : Act} {w : World} {Q : Exit → Act → World → Prop} (hgd : o.guard = none) (x : Operand) (ho : o.op = .load 141 x)
   (g : Nat) (k : KV) (hg : w.heap[g]? = some (.cells (kc k) 141 (0, 0))) (hx : a.eval x = .pointer (some ⟨g, 0, none⟩))
   (h : wpList Tryz.prog ops Q rest (a.put o.dst (.agg (kc k))) w) : wpList Tryz.prog ops Q (o :: rest) a w :=
 wpList_load_row hgd 141 x ho g hx 141 (kc k) (0, 0) _ hg Tryz.underlying141 rfl (by kernel_rfl) h
structure OSt (w0 : World) (b : Nat) (W : Nat) (s : Sh) (vK vH : Value) (n m : Nat) (xs ys : List Nat) (wr : World) : Prop where
 upd : Upd [b] w0 wr
 row : wr.heap[b]? = some (.cells (kc ⟨W, s, vK, vH⟩) 141 (0, 0))
 oK : Own wr w0.heap.size 54 vK n (xs.map u64v)
 oH : Own wr w0.heap.size 54 vH m (ys.map u64v)
 sep : ∀ k, vK.ownBlock = some k → vH.ownBlock ≠ some k
theorem OSt.drew {w0 wr : World} {b W n m : Nat} {s : Sh} {vK vH : Value} {xs ys : List Nat} (h : OSt w0 b W s vK vH n m xs ys wr) : OSt w0 b W s vK vH n m xs ys wr.drew :=
 ⟨h.upd.drew, h.row, h.oK.drew, h.oH.drew, h.sep⟩
theorem Own.notK {w : World} {B b n : Nat} {v : Value} {xs : List Value} {cs : Array Value} {fr : Nat × Nat} (h : Own w B 54 v n xs) (hb : w.heap[b]? = some (.cells cs 141 fr)) : ∀ k, v.ownBlock = some k → k ≠ b := by
 intro k he e
 subst e
 rcases h.2 with ⟨rfl, _⟩ | ⟨g, cap, cur, fr, rfl, _, hg, _⟩
 · simp [Value.ownBlock] at he
 · simp [Value.ownBlock] at he
   subst he
   rw [hb] at hg
   have := Option.some.inj hg
   injection this with _ h2 _
   exact absurd h2 (by decide)
theorem OSt.addK {w0 wr w' : World} {b W n m : Nat} {s : Sh} {vK vH v' : Value} {xs ys : List Nat} {y : Nat} (h : OSt w0 b W s vK vH n m xs ys wr) (hg : GrS vK.ownBlock.toList wr w')
   (ho : Own w' w0.heap.size 54 v' (n + 1) (xs.map u64v ++ [u64v y])) (hv : ∀ k, v'.ownBlock = some k → vK.ownBlock = some k ∨ wr.heap.size ≤ k) (hb : b < w0.heap.size) :
   OSt w0 b W s v' vH (n + 1) m (xs ++ [y]) ys (w'.setCell ⟨b, 13, none⟩ v') := by
 have hnb : b ∉ vK.ownBlock.toList := fun hm => by
   have := Own.notK h.oK h.row b (by simpa using hm)
   exact this rfl
 have hrow : w'.heap[b]? = _ := hg.at hnb h.row
 have hH : ∀ k, vH.ownBlock = some k → w'.heap[k]? = wr.heap[k]? := fun k hk => hg.block k (h.oH.lt k hk).2 (fun hm => h.sep k (by simpa using hm) hk)
 refine ⟨⟨hg.os.trans h.upd.os, hg.tape.trans h.upd.tape, hg.output.trans h.upd.output, ?_, fun i hi hn => ?_⟩, ?_, ?_, ?_, ?_⟩
 · simpa using Nat.le_trans h.upd.size hg.size
 · rw [heap_setCell_other _ _ _ _ (by simpa using hn), hg.block i (Nat.lt_of_lt_of_le hi h.upd.size) (fun hm => by have := (h.oK.lt i (by simpa using hm)).1; omega)]
   exact h.upd.block i hi hn
 · rw [heap_setCell_same _ _ _ _ _ _ hrow, kc_setK]
 · rw [List.map_append]
   refine ho.keep fun k hk => heap_setCell_other _ _ _ _ ?_
   exact Own.notK ho hrow k hk
 · refine (h.oH.keep hH).keep fun k hk => heap_setCell_other _ _ _ _ ?_
   exact Own.notK h.oH h.row k hk
 · intro k hk hk2
   rcases hv k hk with h1 | h1
   · exact h.sep k h1 hk2
   · have := (h.oH.lt k hk2).2; omega
theorem OSt.addH {w0 wr w' : World} {b W n m : Nat} {s : Sh} {vK vH v' : Value} {xs ys : List Nat} {y : Nat} (h : OSt w0 b W s vK vH n m xs ys wr) (hg : GrS vH.ownBlock.toList wr w')
   (ho : Own w' w0.heap.size 54 v' (m + 1) (ys.map u64v ++ [u64v y])) (hv : ∀ k, v'.ownBlock = some k → vH.ownBlock = some k ∨ wr.heap.size ≤ k) (hb : b < w0.heap.size) :
   OSt w0 b W s vK v' n (m + 1) xs (ys ++ [y]) (w'.setCell ⟨b, 14, none⟩ v') := by
 have hnb : b ∉ vH.ownBlock.toList := fun hm => by
   have := Own.notK h.oH h.row b (by simpa using hm)
   exact this rfl
 have hrow : w'.heap[b]? = _ := hg.at hnb h.row
 have hK : ∀ k, vK.ownBlock = some k → w'.heap[k]? = wr.heap[k]? := fun k hk => hg.block k (h.oK.lt k hk).2 (fun hm => h.sep k hk (by simpa using hm))
 refine ⟨⟨hg.os.trans h.upd.os, hg.tape.trans h.upd.tape, hg.output.trans h.upd.output, ?_, fun i hi hn => ?_⟩, ?_, ?_, ?_, ?_⟩
 · simpa using Nat.le_trans h.upd.size hg.size
 · rw [heap_setCell_other _ _ _ _ (by simpa using hn), hg.block i (Nat.lt_of_lt_of_le hi h.upd.size) (fun hm => by have := (h.oH.lt i (by simpa using hm)).1; omega)]
   exact h.upd.block i hi hn
 · rw [heap_setCell_same _ _ _ _ _ _ hrow, kc_setH]
 · refine (h.oK.keep hK).keep fun k hk => heap_setCell_other _ _ _ _ ?_
   exact Own.notK h.oK h.row k hk
 · rw [List.map_append]
   refine ho.keep fun k hk => heap_setCell_other _ _ _ _ ?_
   exact Own.notK ho hrow k hk
 · intro k hk hk2
   rcases hv k hk2 with h1 | h1
   · exact h.sep k hk h1
   · have := (h.oK.lt k hk).2; omega
theorem cellS {W w : World} {S : List Nat} (hw : GrS S W w) {g j : Nat} {v : Value} (hg : g < W.heap.size) (hn : g ∉ S) (h : W.cell? ⟨g, j, none⟩ = some v) : w.cell? ⟨g, j, none⟩ = some v :=
 (World.cell?_of_block (w := W) (hw.block g hg hn)).trans h
theorem ps_len : ps.length = 80 := by decide
theorem ps_lt : ∀ p ∈ ps, p < 1000 := by decide
theorem K_len : K.length = 80 := by decide
theorem K_at (i : Nat) (hi : i < 80) : rootF (ps.getD i 0) 3 = K.getD i 0 := by
 rw [← roots3, List.getD_eq_getElem?_getD, List.getD_eq_getElem?_getD, List.getElem?_map, List.getElem?_eq_getElem (by rw [ps_len]; exact hi)]
 rfl
theorem H_at (i : Nat) (hi : i < 8) : rootF (ps.getD i 0) 2 = k512.h.list.getD i 0 := by
 rw [← roots2, List.getD_eq_getElem?_getD, List.getD_eq_getElem?_getD, List.getElem?_map, List.getElem?_take, if_pos hi, List.getElem?_eq_getElem (by rw [ps_len]; omega)]
 rfl
theorem take_getD (l : List Nat) (m i : Nat) (h : i < m) : (l.take m).getD i 0 = l.getD i 0 := by
 rw [List.getD_eq_getElem?_getD, List.getD_eq_getElem?_getD, List.getElem?_take, if_pos h]
theorem root_lt (n p : Nat) : rootF n p < 18446744073709551616 := Nat.mod_lt _ (by decide)
@[irreducible] def K32 : List Nat := (K.take 64).map (· / 4294967296)
theorem K32_eq : K32 = (K.take 64).map (· / 4294967296) := by unfold K32; rfl
theorem K32_len : K32.length = 64 := by rw [K32_eq]; decide
theorem K32_at (i : Nat) (hi : i < 64) : rootF (ps.getD i 0) 3 / 4294967296 = K32.getD i 0 := by
 rw [K_at i (by omega), K32_eq, List.getD_eq_getElem?_getD, List.getD_eq_getElem?_getD, List.getElem?_map, List.getElem?_take, if_pos hi, List.getElem?_eq_getElem (by rw [K_len]; omega)]; rfl
@[irreducible] def H32 : List Nat := k256.h.list
theorem H32_len : H32.length = 8 := by unfold H32; rfl
theorem H32_at (i : Nat) (hi : i < 8) : rootF (ps.getD i 0) 2 / 4294967296 = H32.getD i 0 := by
 rw [H_at i hi]; unfold H32
 match i, hi with
 | 0, _ => rfl
 | 1, _ => rfl
 | 2, _ => rfl
 | 3, _ => rfl
 | 4, _ => rfl
 | 5, _ => rfl
 | 6, _ => rfl
 | 7, _ => rfl
@[irreducible] def K64 : List Nat := K
theorem K64_len : K64.length = 80 := by unfold K64; exact K_len
theorem K64_at (i : Nat) (hi : i < 80) : rootF (ps.getD i 0) 3 = K64.getD i 0 := by unfold K64; exact K_at i hi
@[irreducible] def H64 : List Nat := k512.h.list
theorem H64_len : H64.length = 8 := by unfold H64; rfl
theorem H64_at (i : Nat) (hi : i < 8) : rootF (ps.getD i 0) 2 = H64.getD i 0 := by unfold H64; exact H_at i hi
theorem take_snoc (l : List Nat) (k : Nat) (h : k < l.length) : l.take (k + 1) = l.take k ++ [l.getD k 0] := by
 rw [List.take_succ_eq_append_getElem h, List.getD_eq_getElem?_getD, List.getElem?_eq_getElem h]; rfl
set_option maxRecDepth 100000 in
set_option maxHeartbeats 4000000 in
theorem of32_any (w : World) :
   Calls Tryz.prog 114 #[.int .i64 0] w fun e w' => ∃ vK vH, e = .returned (.agg (kc ⟨32, sh256, vK, vH⟩)) ∧ Own w' w.heap.size 54 vK 64 (K32.map u64v) ∧ Own w' w.heap.size 54 vH 8 (H32.map u64v) ∧ vK ≠ .slice none 0 0 ∧ vH ≠ .slice none 0 0 ∧ Below w.heap.size w w' := by
 go_enter Tryz.func114, Tryz.ntmps114
 go_upto_region 0 with (fail)
 refine wp_region_seq 1 [.new (.cells (kc kz) 141)] (by rfl) rfl (by decide) ?_
 simp only [List.take, List.zip, List.zipWith]
 try go_frame
 refine gm_alloc rfl (.cells (kc kz) 141) (fun _ => by kernel_rfl) (fun b2 hb2 hn2 => ?_)
 try go_frame
 refine gm_nil ?_
 intro w1 hw1 hF1
 simp only [List.drop]
 try go_frame
 have HW1 := Box.mk hw1; have R1 := Box.mk hF1.2; have G2 := Box.mk hb2
 clear hw1 hF1 hb2 hn2
 go_upto_region 1 with (fail)
 refine wp_region_seq 7 [.flo, .flo, .flo, .flo, .flo, .new (.cells (kc kz) 141), .cha] (by rfl) rfl (by decide) ?_
 simp only [List.take, List.zip, List.zipWith]
 try go_frame
 refine gm_flo (.agg (tc ⟨2, 13, 22⟩)) (fun w1 _ => by kernel_rfl) ?_
 try go_frame
 refine gm_flo (.agg (tc ⟨6, 11, 25⟩)) (fun w1 _ => by kernel_rfl) ?_
 try go_frame
 refine gm_flo (.agg (tc ⟨7, 18, 3⟩)) (fun w1 _ => by kernel_rfl) ?_
 try go_frame
 refine gm_flo (.agg (tc ⟨17, 19, 10⟩)) (fun w1 _ => by kernel_rfl) ?_
 try go_frame
 refine gm_flo (.agg (kc ⟨32, sh256, .slice none 0 0, .slice none 0 0⟩)) (fun w1 _ => by kernel_rfl) ?_
 try go_frame
 refine gm_alloc rfl (.cells (kc kz) 141) (fun _ => by kernel_rfl) (fun b hb hn => ?_)
 try go_frame
 refine gm_storeN (.tmp 3) (.tmp 11) rfl b (kc kz) (kc ⟨32, sh256, .slice none 0 0, .slice none 0 0⟩) 141 rfl rfl (by simp) rfl kc_info rfl (kc_one _ rfl rfl) (fun _ => True) (fun _ h => ⟨trivial, h.2⟩) Stb.tt (fun _ _ => trivial) ?_
 try go_frame
 refine gm_nil ?_
 intro w2 hw2 hF2
 simp only [List.drop]
 try go_frame
 have R2 := Box.mk (hw2.block R1.out); have HW2 := Box.mk (HW1.out.trans hw2); have RB := Box.mk hF2.2
 have GB : Box (w.heap.size ≤ b) := ⟨Nat.le_trans HW1.out.size hb⟩
 have NE : Box (b ≠ b2) := ⟨Nat.ne_of_gt (Nat.lt_of_lt_of_le (Array.getElem?_eq_some_iff.1 R1.out).1 hb)⟩
 clear hw2 hF2 HW1 R1 hb hn
 go_wp2_with fail
 refine (primes_any 64 (by omega) w2).mono ?_
 rintro e w5 ⟨vl, rfl, ol, nl, hw5⟩
 obtain ⟨gl, cl, rfl, _, hcl, hgl, _⟩ := ol.cells nl
 have R5 := Box.mk ((Gr.of hw5).block RB.out); have R25 := Box.mk ((Gr.of hw5).block R2.out); have HW5 := Box.mk (HW2.out.trans (Gr.of hw5)); have LB := Box.mk (Array.getElem?_eq_some_iff.1 RB.out).1
 have GL := Box.mk hgl
 have NL : Box (gl ≠ b) := ⟨by
   have h1 := ol.lt gl rfl
   have := LB.out; omega⟩
 have HCL : Box (∀ j, j < 64 → w5.cell? ⟨gl, j, none⟩ = some (.int .i64 (ps.getD j 0 : Nat))) := ⟨fun j hj => hcl j _ (by rw [iv_at _ _ (by rw [List.length_take, ps_len]; omega), take_getD _ _ _ hj])⟩
 have S0 : Box (OSt w5 b 32 sh256 (.slice none 0 0) (.slice none 0 0) 0 0 [] [] w5) := ⟨⟨Upd.refl _ _, R5.out, Own.nil _ _ _, Own.nil _ _ _, by simp [Value.ownBlock]⟩⟩
 have B5 : Box (b < w5.heap.size) := ⟨(Array.getElem?_eq_some_iff.1 R5.out).1⟩
 clear hcl hgl hw5 ol nl R5 LB RB R2 HW2
 go_wp2_with fail
 go_loopw [6] (fun i wr => ∃ n : Nat, n ≤ 64 ∧ i = .int .i64 n ∧ ∃ vK vH, OSt w5 b 32 sh256 vK vH n (min n 8) (K32.take n) (H32.take n) wr ∧ (0 < n → vK ≠ .slice none 0 0 ∧ vH ≠ .slice none 0 0)) (fun i _ => 64 - (intOf i).toNat)
 case atStart => exact ⟨0, by omega, rfl, _, _, by simpa using S0.out, by omega⟩
 case round =>
   clear S0
   obtain ⟨n, hn, rfl, vK, vH, st, hnn⟩ := hrel
   have ST := Box.mk st; have NN := Box.mk hnn
   clear st hnn
   by_cases hlt : n < 64
   · have hltI : (n : Int) < 64 := by omega
     have NR := Box.mk (show ps.getD n 0 < 1000 from by
       rw [List.getD_eq_getElem?_getD, List.getElem?_eq_getElem (by rw [ps_len]; omega)]; exact ps_lt _ (List.getElem_mem _))
     have KA := K32_at n hlt
     have HA := Box.mk (H32_at n)
     have KT := Box.mk (take_snoc K32 n (by rw [K32_len]; exact hlt))
     have HT := Box.mk (take_snoc H32 n)
     have HC : wr.cell? ⟨gl, n, none⟩ = some (.int .i64 (ps.getD n 0 : Nat)) := (World.cell?_of_block (w := w5) (ST.out.upd.block gl GL.out (by simpa using NL.out))).trans (HCL.out n hlt)
     generalize ps.getD n 0 = p at NR KA HA HC
     have RL := root_lt p 3
     obtain ⟨x, hx⟩ : ∃ x, x = rootF p 3 := ⟨_, rfl⟩
     rw [← hx] at KA RL
     obtain ⟨y, hy⟩ : ∃ y, y = K32.getD n 0 := ⟨_, rfl⟩
     rw [← hy] at KA
     have hsh : (x : Int) / 4294967296 = (y : Int) := by omega
     have HX := Box.mk hx; have HY := Box.mk hy; have HCB := Box.mk HC; have HC0 := Box.mk ((World.cell?_of_block (w := w5) (ST.out.upd.block gl GL.out (by simpa using NL.out))).symm.trans HC)
     clear hx hy KA RL HC
     go_upto_region 10 with (fail)
     have cK : wr.drew.cell? ⟨b, 13, none⟩ = some vK := cell_of_row _ _ _ _ _ _ ST.out.row
     have cW : wr.drew.cell? ⟨b, 0, none⟩ = some (.int .i64 32) := cell_of_row _ _ _ _ _ _ ST.out.row
     have CK := Box.mk cK; have CW := Box.mk cW
     have HSl : Box (∀ k, vK.ownBlock = some k → k ∈ vK.ownBlock.toList) := ⟨fun k hk => by rw [hk]; simp⟩
     have NB : Box (b ∉ vK.ownBlock.toList) := ⟨fun hm => Own.notK ST.out.oK ST.out.row b (by simpa using hm) rfl⟩
     have NG : Box (gl ∉ vK.ownBlock.toList) := ⟨fun hm => by have := (ST.out.oK.lt gl (by simpa using hm)).1; have := GL.out; omega⟩
     have bw : Box (b < wr.drew.heap.size) := ⟨(Array.getElem?_eq_some_iff.1 ST.out.row).1⟩
     have gw : Box (gl < wr.drew.heap.size) := ⟨Nat.lt_of_lt_of_le GL.out ST.out.upd.size⟩
     clear cK cW
     refine wp_region_mixS vK.ownBlock.toList (fun w => Own w w5.heap.size 54 vK n ((K32.take n).map u64v) ∧ w5.heap.size ≤ w.heap.size) (fun w1 w2 hg h => ⟨h.1.below hg, Nat.le_trans h.2 hg.size⟩) ⟨ST.out.oK.drew, ST.out.upd.size⟩ (fun k hk => (ST.out.oK.lt k (by simpa using hk)).2) 14 [.flo, .flo, .flo, .flo, .flo, .flo, .cha, .flo, .flo, .flo, .flo, .cha, .cha, .flo] (by kernel_rfl) (by kernel_rfl) rfl ?_
     simp only [List.take, List.zip, List.zipWith]
     try go_frame
     refine gm_flo (.pointer (some ⟨b, 13, none⟩)) (fun w1 hw1 => ?_) ?_
     case refine_1 =>
       go_simp
     try go_frame
     refine gm_flo (vK) (fun w1 hw1 => ?_) ?_
     case refine_1 =>
       have hc := cellS hw1 bw.out NB.out CK.out
       go_simp
     try go_frame
     refine gm_flo (.slice (some ⟨gl, 0, none⟩) 64 cl) (fun w1 hw1 => ?_) ?_
     case refine_1 =>
       go_simp
     try go_frame
     refine gm_flo (.int .i64 (n : Nat)) (fun w1 hw1 => ?_) ?_
     case refine_1 =>
       go_simp
     try go_frame
     refine gm_flo (.pointer (some ⟨gl, n, none⟩)) (fun w1 hw1 => ?_) ?_
     case refine_1 =>
       go_simp
     try go_frame
     refine gm_flo (.int .i64 (p : Nat)) (fun w1 hw1 => ?_) ?_
     case refine_1 =>
       have hc := cellS hw1 gw.out NG.out HCB.out
       go_simp
     try go_frame
     refine gm_call [.int .i64 (p : Nat), .int .i64 3] (by kernel_rfl) rfl rfl (fun _ _ hg h => ⟨h.1.below hg, Nat.le_trans h.2 hg.size⟩) (fun w1 hw1 hF1 => (root_3 p w1 NR.out).mono ?_)
     rintro e w2 ⟨rfl, hw2⟩
     refine ⟨_, rfl, hw2, ?_⟩
     clear hw1 hF1 w1 hw2 w2
     try go_frame
     rw [← HX.out]
     refine gm_flo (.pointer (some ⟨b, 0, none⟩)) (fun w1 hw1 => ?_) ?_
     case refine_1 =>
       go_simp
     try go_frame
     refine gm_flo (.int .i64 32) (fun w1 hw1 => ?_) ?_
     case refine_1 =>
       have hc := cellS hw1 bw.out NB.out CW.out
       go_simp
     try go_frame
     refine gm_flo (.int .i64 32) (fun w1 hw1 => ?_) ?_
     case refine_1 =>
       have hwr : IntKind.i64.wrap 32 = 32 := rfl
       go_simp
     try go_frame
     refine gm_flo (.int .u64 (y : Nat)) (fun w1 hw1 => ?_) ?_
     case refine_1 =>
       go_simp
     try go_frame
     refine gm_one (e := 54) (.tmp 36) rfl (.int .u64 (y : Nat)) rfl (fun _ => by kernel_rfl) (fun _ _ hg h => ⟨h.1.below hg, Nat.le_trans h.2 hg.size⟩) (fun b1 hb1 => ?_)
     try go_frame
     refine gm_app1 (.tmp 27) (.tmp 37) 71 rfl w5.heap.size 54 (.int .u64 0) 8 Tryz.underlying71 (by kernel_rfl) rfl (vK) (n) ((K32.take n).map u64v) rfl b1 (.int .u64 (y : Nat)) rfl rfl (by omega) (by omega) HSl.out (fun w1 hw1 h => ⟨h.1.1, h.1.2, (cell_of_row _ _ _ _ _ _ h.2).trans rfl⟩) (fun v' hv' hv2 => ?_)
     try go_frame
     refine gm_flo (.pointer (some ⟨b, 13, none⟩)) (fun w1 hw1 => ?_) ?_
     case refine_1 =>
       go_simp
     try go_frame
     refine gm_nil ?_
     intro w9 hw9 hF9
     simp only [List.drop]
     try go_frame
     obtain ⟨g', cap', rfl, _, _, _, _⟩ := hF9.cells hv'
     have hf : w9.frozen? ⟨b, 13, none⟩ = false := frozen_of_row _ _ _ _ _ (hw9.at NB.out (show wr.drew.heap[b]? = _ from ST.out.row))
     have hcc : w9.cell? ⟨b, 13, none⟩ = some vK := cellS hw9 bw.out NB.out CK.out
     have ST2 : Box (OSt w5 b 32 sh256 (.slice (some ⟨g', 0, none⟩) (n + 1) cap') vH (n + 1) (min n 8) (K32.take (n + 1)) (H32.take n) (w9.setCell ⟨b, 13, none⟩ (.slice (some ⟨g', 0, none⟩) (n + 1) cap'))) := ⟨by
       rw [KT.out, ← HY.out]; exact ST.out.drew.addK hw9 hF9 hv2 B5.out⟩
     clear hw9 hF9 hv2 hv' CK CW HSl NB NG bw gw ST HX HY KT hsh HCB
     go_upto_if 41 with (fail)
     generalize w9.setCell ⟨b, 13, none⟩ (.slice (some ⟨g', 0, none⟩) (n + 1) cap') = wq at ST2 ⊢
     clear hf hcc
     by_cases h8 : n < 8
     · have h8I : (n : Int) < 8 := by omega
       have m8 : min n 8 = n := by omega
       have m9 : min (n + 1) 8 = n + 1 := by omega
       rw [m8] at ST2
       have HA2 := HA.out h8
       have RL := root_lt p 2
       obtain ⟨x, hx⟩ : ∃ x, x = rootF p 2 := ⟨_, rfl⟩
       rw [← hx] at HA2 RL
       obtain ⟨y, hy⟩ : ∃ y, y = H32.getD n 0 := ⟨_, rfl⟩
       rw [← hy] at HA2
       have hsh : (x : Int) / 4294967296 = (y : Int) := by omega
       have HX := Box.mk hx; have HY := Box.mk hy; have M9 := Box.mk m9
       have HT2 := Box.mk (HT.out (by rw [H32_len]; exact h8))
       have HCQ : Box (wq.drew.cell? ⟨gl, n, none⟩ = some (.int .i64 (p : Nat))) := ⟨(World.cell?_of_block (w := w5) (ST2.out.upd.block gl GL.out (by simpa using NL.out))).trans HC0.out⟩
       clear hx hy HA2 RL HA HT m8 m9 h8
       go_upto_region 12 with (fail)
       have CK : Box (wq.drew.cell? ⟨b, 14, none⟩ = some vH) := ⟨cell_of_row _ _ _ _ _ _ ST2.out.row⟩
       have CW : Box (wq.drew.cell? ⟨b, 0, none⟩ = some (.int .i64 32)) := ⟨cell_of_row _ _ _ _ _ _ ST2.out.row⟩
       have HSl : Box (∀ k, vH.ownBlock = some k → k ∈ vH.ownBlock.toList) := ⟨fun k hk => by rw [hk]; simp⟩
       have NB : Box (b ∉ vH.ownBlock.toList) := ⟨fun hm => Own.notK ST2.out.oH ST2.out.row b (by simpa using hm) rfl⟩
       have NG : Box (gl ∉ vH.ownBlock.toList) := ⟨fun hm => by have := (ST2.out.oH.lt gl (by simpa using hm)).1; have := GL.out; omega⟩
       have bw : Box (b < wq.drew.heap.size) := ⟨(Array.getElem?_eq_some_iff.1 ST2.out.row).1⟩
       have gw : Box (gl < wq.drew.heap.size) := ⟨Nat.lt_of_lt_of_le GL.out ST2.out.upd.size⟩
       refine wp_region_mixS vH.ownBlock.toList (fun w => Own w w5.heap.size 54 vH n ((H32.take n).map u64v) ∧ w5.heap.size ≤ w.heap.size) (fun w1 w2 hg h => ⟨h.1.below hg, Nat.le_trans h.2 hg.size⟩) ⟨ST2.out.oH.drew, ST2.out.upd.size⟩ (fun k hk => (ST2.out.oH.lt k (by simpa using hk)).2) 14 [.flo, .flo, .flo, .flo, .flo, .flo, .cha, .flo, .flo, .flo, .flo, .cha, .cha, .flo] (by kernel_rfl) (by kernel_rfl) rfl ?_
       simp only [List.take, List.zip, List.zipWith]
       try go_frame
       refine gm_flo (.pointer (some ⟨b, 14, none⟩)) (fun w1 hw1 => ?_) ?_
       case refine_1 =>
         go_simp
       try go_frame
       refine gm_flo (vH) (fun w1 hw1 => ?_) ?_
       case refine_1 =>
         have hc := cellS hw1 bw.out NB.out CK.out
         go_simp
       try go_frame
       refine gm_flo (.slice (some ⟨gl, 0, none⟩) 64 cl) (fun w1 hw1 => ?_) ?_
       case refine_1 =>
         go_simp
       try go_frame
       refine gm_flo (.int .i64 (n : Nat)) (fun w1 hw1 => ?_) ?_
       case refine_1 =>
         go_simp
       try go_frame
       refine gm_flo (.pointer (some ⟨gl, n, none⟩)) (fun w1 hw1 => ?_) ?_
       case refine_1 =>
         go_simp
       try go_frame
       refine gm_flo (.int .i64 (p : Nat)) (fun w1 hw1 => ?_) ?_
       case refine_1 =>
         have hc := cellS hw1 gw.out NG.out HCQ.out
         go_simp
       try go_frame
       refine gm_call [.int .i64 (p : Nat), .int .i64 2] (by kernel_rfl) rfl rfl (fun _ _ hg h => ⟨h.1.below hg, Nat.le_trans h.2 hg.size⟩) (fun w1 hw1 hF1 => (root_2 p w1 NR.out).mono ?_)
       rintro e w2 ⟨rfl, hw2⟩
       refine ⟨_, rfl, hw2, ?_⟩
       clear hw1 hF1 w1 hw2 w2
       try go_frame
       rw [← HX.out]
       refine gm_flo (.pointer (some ⟨b, 0, none⟩)) (fun w1 hw1 => ?_) ?_
       case refine_1 =>
         go_simp
       try go_frame
       refine gm_flo (.int .i64 32) (fun w1 hw1 => ?_) ?_
       case refine_1 =>
         have hc := cellS hw1 bw.out NB.out CW.out
         go_simp
       try go_frame
       refine gm_flo (.int .i64 32) (fun w1 hw1 => ?_) ?_
       case refine_1 =>
         have hwr : IntKind.i64.wrap 32 = 32 := rfl
         go_simp
       try go_frame
       refine gm_flo (.int .u64 (y : Nat)) (fun w1 hw1 => ?_) ?_
       case refine_1 =>
         go_simp
       try go_frame
       refine gm_one (e := 54) (.tmp 52) rfl (.int .u64 (y : Nat)) rfl (fun _ => by kernel_rfl) (fun _ _ hg h => ⟨h.1.below hg, Nat.le_trans h.2 hg.size⟩) (fun b1 hb1 => ?_)
       try go_frame
       refine gm_app1 (.tmp 43) (.tmp 53) 71 rfl w5.heap.size 54 (.int .u64 0) 8 Tryz.underlying71 (by kernel_rfl) rfl (vH) (n) ((H32.take n).map u64v) rfl b1 (.int .u64 (y : Nat)) rfl rfl (by omega) (by omega) HSl.out (fun w1 hw1 h => ⟨h.1.1, h.1.2, (cell_of_row _ _ _ _ _ _ h.2).trans rfl⟩) (fun v' hv' hv2 => ?_)
       try go_frame
       refine gm_flo (.pointer (some ⟨b, 14, none⟩)) (fun w1 hw1 => ?_) ?_
       case refine_1 =>
         go_simp
       try go_frame
       refine gm_nil ?_
       intro w9 hw9 hF9
       simp only [List.drop]
       try go_frame
       obtain ⟨g2, cap2, rfl, _, _, _, _⟩ := hF9.cells hv'
       have hf : w9.frozen? ⟨b, 14, none⟩ = false := frozen_of_row _ _ _ _ _ (hw9.at NB.out (show wq.drew.heap[b]? = _ from ST2.out.row))
       have hcc : w9.cell? ⟨b, 14, none⟩ = some vH := cellS hw9 bw.out NB.out CK.out
       have ST3 : Box (OSt w5 b 32 sh256 (.slice (some ⟨g', 0, none⟩) (n + 1) cap') (.slice (some ⟨g2, 0, none⟩) (n + 1) cap2) (n + 1) (n + 1) (K32.take (n + 1)) (H32.take (n + 1)) (w9.setCell ⟨b, 14, none⟩ (.slice (some ⟨g2, 0, none⟩) (n + 1) cap2))) := ⟨by
         rw [HT2.out, ← HY.out]; exact ST2.out.drew.addH hw9 hF9 hv2 B5.out⟩
       clear hw9 hF9 hv2 hv' CK CW HSl NB NG bw gw ST2 HX HY HT2 hsh HCQ
       go_wp2_with fail
       exact ⟨⟨n + 1, by omega, by go_num, _, _, by rw [M9.out]; exact ST3.out, fun _ => ⟨by simp, by simp⟩⟩, by simp [intOf]; omega⟩
     · have h8I : ¬ (n : Int) < 8 := by omega
       have M9 : Box (min (n + 1) 8 = min n 8) := ⟨by omega⟩
       have HTE : Box (H32.take (n + 1) = H32.take n) := ⟨by rw [List.take_of_length_le (by rw [H32_len]; omega), List.take_of_length_le (by rw [H32_len]; omega)]⟩
       have NN2 := Box.mk (NN.out (by omega)).2
       clear HA HT h8
       go_wp2_with fail
       exact ⟨⟨n + 1, by omega, by go_num, _, _, by rw [M9.out, HTE.out]; exact ST2.out, fun _ => ⟨by simp, NN2.out⟩⟩, by simp [intOf]; omega⟩
   · obtain rfl : n = 64 := by omega
     have NN := Box.mk (NN.out (by omega))
     have ST : Box (OSt w5 b 32 sh256 vK vH 64 8 K32 H32 wr) := ⟨by
       have := ST.out
       rwa [List.take_of_length_le (by rw [K32_len]; omega), List.take_of_length_le (by rw [H32_len]; omega)] at this⟩
     have NE2 : Box (b2 ∉ [b]) := ⟨by simpa using Ne.symm NE.out⟩
     have R2w : Box (wr.heap[b2]? = some (.cells (kc kz) 141 (0, 0))) := ⟨(ST.out.upd.block b2 (Array.getElem?_eq_some_iff.1 R25.out).1 NE2.out).trans R25.out⟩
     have HONE : Box ((kc ⟨32, sh256, vK, vH⟩).all (·.oneCell') = true) := ⟨by
       obtain ⟨g1, c1, h1, _⟩ := ST.out.oK.cells NN.out.1
       obtain ⟨g2, c2, h2, _⟩ := ST.out.oH.cells NN.out.2
       exact kc_one _ (by show vK.oneCell' = true; rw [h1]; rfl) (by show vH.oneCell' = true; rw [h2]; rfl)⟩
     clear hlt hn
     go_upto_region 13 with (fail)
     refine wp_region_seq 1 [.flo] (by rfl) rfl (by decide) ?_
     simp only [List.take, List.zip, List.zipWith]
     try go_frame
     refine gm_loadK (.tmp 3) rfl b ⟨32, sh256, vK, vH⟩ ST.out.row (by simp) rfl ?_
     try go_frame
     refine gm_nil ?_
     intro w9 hw9 hF9
     simp only [List.drop]
     try go_frame
     have R9 := Box.mk (hw9.block R2w.out)
     have RK := Box.mk (show (w9.setRow b2 (kc ⟨32, sh256, vK, vH⟩)).heap[b2]? = some (.cells (kc ⟨32, sh256, vK, vH⟩) 141 (0, 0)) from setRow_heap _ _ _ _ _ _ R9.out)
     have OK9 : Box (Own (w9.setRow b2 (kc ⟨32, sh256, vK, vH⟩)) w5.heap.size 54 vK 64 (K32.map u64v)) := ⟨(ST.out.oK.below hw9).keep fun k hk => setRow_other _ _ _ _ (Own.notK (ST.out.oK.below hw9) R9.out k hk)⟩
     have OH9 : Box (Own (w9.setRow b2 (kc ⟨32, sh256, vK, vH⟩)) w5.heap.size 54 vH 8 (H32.map u64v)) := ⟨(ST.out.oH.below hw9).keep fun k hk => setRow_other _ _ _ _ (Own.notK (ST.out.oH.below hw9) R9.out k hk)⟩
     have BL : Box (Below w.heap.size w (w9.setRow b2 (kc ⟨32, sh256, vK, vH⟩))) := ⟨below_setRow ((Upd.below HW5.out ST.out.upd (by intro i hi; simp at hi; subst hi; exact GB.out) HW5.out.size).trans (hw9.below.mono (Nat.le_trans HW5.out.size ST.out.upd.size))) G2.out _⟩
     have SZ : Box (w.heap.size ≤ w5.heap.size) := ⟨HW5.out.size⟩
     clear hw9 hF9
     refine wpList_storeK rfl (.tmp 2) (.tmp 56) rfl b2 ⟨32, sh256, vK, vH⟩ kz HONE.out R9.out rfl rfl ?_
     generalize w9.setRow b2 (kc ⟨32, sh256, vK, vH⟩) = wz at RK OK9 OH9 BL ⊢
     go_wp2_with fail
     refine bodyPost_ret (results_cell_row (p := 2) (ty := 141) rfl _ _ b2 141 (kc ⟨32, sh256, vK, vH⟩) (0, 0) _ rfl RK.out Tryz.underlying141 rfl (by kernel_rfl)) rfl ⟨vK, vH, rfl, OK9.out.base SZ.out, OH9.out.base SZ.out, NN.out.1, NN.out.2, BL.out⟩
open Go Go.RowKit
open Sha
theorem of64_any (w : World) :
   Calls Tryz.prog 114 #[.int .i64 1] w fun e w' => ∃ vK vH, e = .returned (.agg (kc ⟨64, sh512, vK, vH⟩)) ∧ Own w' w.heap.size 54 vK 80 (K64.map u64v) ∧ Own w' w.heap.size 54 vH 8 (H64.map u64v) ∧ vK ≠ .slice none 0 0 ∧ vH ≠ .slice none 0 0 ∧ Below w.heap.size w w' := by
 go_enter Tryz.func114, Tryz.ntmps114
 go_upto_region 0 with (fail)
 refine wp_region_seq 1 [.new (.cells (kc kz) 141)] (by rfl) rfl (by decide) ?_
 simp only [List.take, List.zip, List.zipWith]
 try go_frame
 refine gm_alloc rfl (.cells (kc kz) 141) (fun _ => by kernel_rfl) (fun b2 hb2 hn2 => ?_)
 try go_frame
 refine gm_nil ?_
 intro w1 hw1 hF1
 simp only [List.drop]
 try go_frame
 have HW1 := Box.mk hw1; have R1 := Box.mk hF1.2; have G2 := Box.mk hb2
 clear hw1 hF1 hb2 hn2
 go_upto_region 1 with (fail)
 refine wp_region_seq 7 [.flo, .flo, .flo, .flo, .flo, .new (.cells (kc kz) 141), .cha] (by rfl) rfl (by decide) ?_
 simp only [List.take, List.zip, List.zipWith]
 try go_frame
 refine gm_flo (.agg (tc ⟨2, 13, 22⟩)) (fun w1 _ => by kernel_rfl) ?_
 try go_frame
 refine gm_flo (.agg (tc ⟨6, 11, 25⟩)) (fun w1 _ => by kernel_rfl) ?_
 try go_frame
 refine gm_flo (.agg (tc ⟨7, 18, 3⟩)) (fun w1 _ => by kernel_rfl) ?_
 try go_frame
 refine gm_flo (.agg (tc ⟨17, 19, 10⟩)) (fun w1 _ => by kernel_rfl) ?_
 try go_frame
 refine gm_flo (.agg (kc ⟨32, sh256, .slice none 0 0, .slice none 0 0⟩)) (fun w1 _ => by kernel_rfl) ?_
 try go_frame
 refine gm_alloc rfl (.cells (kc kz) 141) (fun _ => by kernel_rfl) (fun b hb hn => ?_)
 try go_frame
 refine gm_storeN (.tmp 3) (.tmp 11) rfl b (kc kz) (kc ⟨32, sh256, .slice none 0 0, .slice none 0 0⟩) 141 rfl rfl (by simp) rfl kc_info rfl (kc_one _ rfl rfl) (fun _ => True) (fun _ h => ⟨trivial, h.2⟩) Stb.tt (fun _ _ => trivial) ?_
 try go_frame
 refine gm_nil ?_
 intro w2 hw2 hF2
 simp only [List.drop]
 try go_frame
 have R2 := Box.mk (hw2.block R1.out); have HW2 := Box.mk (HW1.out.trans hw2); have RB := Box.mk hF2.2
 have GB : Box (w.heap.size ≤ b) := ⟨Nat.le_trans HW1.out.size hb⟩
 have NE : Box (b ≠ b2) := ⟨Nat.ne_of_gt (Nat.lt_of_lt_of_le (Array.getElem?_eq_some_iff.1 R1.out).1 hb)⟩
 clear hw2 hF2 HW1 R1 hb hn
 go_upto_region 4 with (fail)
 refine wp_region_seq 5 [.flo, .flo, .flo, .flo, .flo] (by rfl) rfl (by decide) ?_
 simp only [List.take, List.zip, List.zipWith]
 try go_frame
 refine gm_flo (.agg (tc ⟨28, 34, 39⟩)) (fun w1 _ => by kernel_rfl) ?_
 try go_frame
 refine gm_flo (.agg (tc ⟨14, 18, 41⟩)) (fun w1 _ => by kernel_rfl) ?_
 try go_frame
 refine gm_flo (.agg (tc ⟨1, 8, 7⟩)) (fun w1 _ => by kernel_rfl) ?_
 try go_frame
 refine gm_flo (.agg (tc ⟨19, 61, 6⟩)) (fun w1 _ => by kernel_rfl) ?_
 try go_frame
 refine gm_flo (.agg (kc ⟨64, sh512, .slice none 0 0, .slice none 0 0⟩)) (fun w1 _ => by kernel_rfl) ?_
 try go_frame
 refine gm_nil ?_
 intro w3 hw3 hF3
 simp only [List.drop]
 try go_frame
 have RB' := Box.mk (hw3.block RB.out); have R2' := Box.mk (hw3.block R2.out); have HW3 := Box.mk (HW2.out.trans hw3)
 clear hw3 hF3
 refine wpList_storeK rfl (.tmp 3) (.tmp 18) rfl b ⟨64, sh512, .slice none 0 0, .slice none 0 0⟩ _ (kc_one _ rfl rfl) RB'.out rfl rfl ?_
 have RB'' := Box.mk (show (w3.setRow b (kc ⟨64, sh512, .slice none 0 0, .slice none 0 0⟩)).heap[b]? = some (.cells (kc ⟨64, sh512, .slice none 0 0, .slice none 0 0⟩) 141 (0, 0)) from setRow_heap _ _ _ _ _ _ RB'.out)
 have R2'' := Box.mk ((setRow_other w3 b b2 (kc ⟨64, sh512, .slice none 0 0, .slice none 0 0⟩) (Ne.symm NE.out)).trans R2'.out)
 have HW4 := Box.mk (HW3.out.setRow GB.out (kc ⟨64, sh512, .slice none 0 0, .slice none 0 0⟩))
 clear HW2 HW3 RB R2 RB' R2'
 generalize w3.setRow b (kc ⟨64, sh512, .slice none 0 0, .slice none 0 0⟩) = w4 at RB'' R2'' HW4 ⊢
 go_wp2_with fail
 refine (primes_any 80 (by omega) w4).mono ?_
 rintro e w5 ⟨vl, rfl, ol, nl, hw5⟩
 obtain ⟨gl, cl, rfl, _, hcl, hgl, _⟩ := ol.cells nl
 have R5 := Box.mk ((Gr.of hw5).block RB''.out); have R25 := Box.mk ((Gr.of hw5).block R2''.out); have HW5 := Box.mk (HW4.out.trans (Gr.of hw5)); have LB := Box.mk (Array.getElem?_eq_some_iff.1 RB''.out).1
 have GL := Box.mk hgl
 have NL : Box (gl ≠ b) := ⟨by
   have h1 := ol.lt gl rfl
   have := LB.out; omega⟩
 have HCL : Box (∀ j, j < 80 → w5.cell? ⟨gl, j, none⟩ = some (.int .i64 (ps.getD j 0 : Nat))) := ⟨fun j hj => hcl j _ (by rw [iv_at _ _ (by rw [List.length_take, ps_len]; omega), take_getD _ _ _ hj])⟩
 have S0 : Box (OSt w5 b 64 sh512 (.slice none 0 0) (.slice none 0 0) 0 0 [] [] w5) := ⟨⟨Upd.refl _ _, R5.out, Own.nil _ _ _, Own.nil _ _ _, by simp [Value.ownBlock]⟩⟩
 have B5 : Box (b < w5.heap.size) := ⟨(Array.getElem?_eq_some_iff.1 R5.out).1⟩
 clear hcl hgl hw5 ol nl R5 LB RB'' R2'' HW4
 go_wp2_with fail
 go_loopw [6] (fun i wr => ∃ n : Nat, n ≤ 80 ∧ i = .int .i64 n ∧ ∃ vK vH, OSt w5 b 64 sh512 vK vH n (min n 8) (K64.take n) (H64.take n) wr ∧ (0 < n → vK ≠ .slice none 0 0 ∧ vH ≠ .slice none 0 0)) (fun i _ => 80 - (intOf i).toNat)
 case atStart => exact ⟨0, by omega, rfl, _, _, by simpa using S0.out, by omega⟩
 case round =>
   clear S0
   obtain ⟨n, hn, rfl, vK, vH, st, hnn⟩ := hrel
   have ST := Box.mk st; have NN := Box.mk hnn
   clear st hnn
   by_cases hlt : n < 80
   · have hltI : (n : Int) < 80 := by omega
     have NR := Box.mk (show ps.getD n 0 < 1000 from by
       rw [List.getD_eq_getElem?_getD, List.getElem?_eq_getElem (by rw [ps_len]; omega)]; exact ps_lt _ (List.getElem_mem _))
     have KA := K64_at n hlt
     have HA := Box.mk (H64_at n)
     have KT := Box.mk (take_snoc K64 n (by rw [K64_len]; exact hlt))
     have HT := Box.mk (take_snoc H64 n)
     have HC : wr.cell? ⟨gl, n, none⟩ = some (.int .i64 (ps.getD n 0 : Nat)) := (World.cell?_of_block (w := w5) (ST.out.upd.block gl GL.out (by simpa using NL.out))).trans (HCL.out n hlt)
     generalize ps.getD n 0 = p at NR KA HA HC
     have RL := root_lt p 3
     obtain ⟨x, hx⟩ : ∃ x, x = rootF p 3 := ⟨_, rfl⟩
     rw [← hx] at KA RL
     obtain ⟨y, hy⟩ : ∃ y, y = K64.getD n 0 := ⟨_, rfl⟩
     rw [← hy] at KA
     have hsh : (x : Int) / 1 = (y : Int) := by omega
     have HX := Box.mk hx; have HY := Box.mk hy; have HCB := Box.mk HC; have HC0 := Box.mk ((World.cell?_of_block (w := w5) (ST.out.upd.block gl GL.out (by simpa using NL.out))).symm.trans HC)
     clear hx hy KA RL HC
     go_upto_region 10 with (fail)
     have cK : wr.drew.cell? ⟨b, 13, none⟩ = some vK := cell_of_row _ _ _ _ _ _ ST.out.row
     have cW : wr.drew.cell? ⟨b, 0, none⟩ = some (.int .i64 64) := cell_of_row _ _ _ _ _ _ ST.out.row
     have CK := Box.mk cK; have CW := Box.mk cW
     have HSl : Box (∀ k, vK.ownBlock = some k → k ∈ vK.ownBlock.toList) := ⟨fun k hk => by rw [hk]; simp⟩
     have NB : Box (b ∉ vK.ownBlock.toList) := ⟨fun hm => Own.notK ST.out.oK ST.out.row b (by simpa using hm) rfl⟩
     have NG : Box (gl ∉ vK.ownBlock.toList) := ⟨fun hm => by have := (ST.out.oK.lt gl (by simpa using hm)).1; have := GL.out; omega⟩
     have bw : Box (b < wr.drew.heap.size) := ⟨(Array.getElem?_eq_some_iff.1 ST.out.row).1⟩
     have gw : Box (gl < wr.drew.heap.size) := ⟨Nat.lt_of_lt_of_le GL.out ST.out.upd.size⟩
     clear cK cW
     refine wp_region_mixS vK.ownBlock.toList (fun w => Own w w5.heap.size 54 vK n ((K64.take n).map u64v) ∧ w5.heap.size ≤ w.heap.size) (fun w1 w2 hg h => ⟨h.1.below hg, Nat.le_trans h.2 hg.size⟩) ⟨ST.out.oK.drew, ST.out.upd.size⟩ (fun k hk => (ST.out.oK.lt k (by simpa using hk)).2) 14 [.flo, .flo, .flo, .flo, .flo, .flo, .cha, .flo, .flo, .flo, .flo, .cha, .cha, .flo] (by kernel_rfl) (by kernel_rfl) rfl ?_
     simp only [List.take, List.zip, List.zipWith]
     try go_frame
     refine gm_flo (.pointer (some ⟨b, 13, none⟩)) (fun w1 hw1 => ?_) ?_
     case refine_1 =>
       go_simp
     try go_frame
     refine gm_flo (vK) (fun w1 hw1 => ?_) ?_
     case refine_1 =>
       have hc := cellS hw1 bw.out NB.out CK.out
       go_simp
     try go_frame
     refine gm_flo (.slice (some ⟨gl, 0, none⟩) 80 cl) (fun w1 hw1 => ?_) ?_
     case refine_1 =>
       go_simp
     try go_frame
     refine gm_flo (.int .i64 (n : Nat)) (fun w1 hw1 => ?_) ?_
     case refine_1 =>
       go_simp
     try go_frame
     refine gm_flo (.pointer (some ⟨gl, n, none⟩)) (fun w1 hw1 => ?_) ?_
     case refine_1 =>
       go_simp
     try go_frame
     refine gm_flo (.int .i64 (p : Nat)) (fun w1 hw1 => ?_) ?_
     case refine_1 =>
       have hc := cellS hw1 gw.out NG.out HCB.out
       go_simp
     try go_frame
     refine gm_call [.int .i64 (p : Nat), .int .i64 3] (by kernel_rfl) rfl rfl (fun _ _ hg h => ⟨h.1.below hg, Nat.le_trans h.2 hg.size⟩) (fun w1 hw1 hF1 => (root_3 p w1 NR.out).mono ?_)
     rintro e w2 ⟨rfl, hw2⟩
     refine ⟨_, rfl, hw2, ?_⟩
     clear hw1 hF1 w1 hw2 w2
     try go_frame
     rw [← HX.out]
     refine gm_flo (.pointer (some ⟨b, 0, none⟩)) (fun w1 hw1 => ?_) ?_
     case refine_1 =>
       go_simp
     try go_frame
     refine gm_flo (.int .i64 64) (fun w1 hw1 => ?_) ?_
     case refine_1 =>
       have hc := cellS hw1 bw.out NB.out CW.out
       go_simp
     try go_frame
     refine gm_flo (.int .i64 0) (fun w1 hw1 => ?_) ?_
     case refine_1 =>
       have hwr : IntKind.i64.wrap 0 = 0 := rfl
       go_simp
     try go_frame
     refine gm_flo (.int .u64 (y : Nat)) (fun w1 hw1 => ?_) ?_
     case refine_1 =>
       go_simp
     try go_frame
     refine gm_one (e := 54) (.tmp 36) rfl (.int .u64 (y : Nat)) rfl (fun _ => by kernel_rfl) (fun _ _ hg h => ⟨h.1.below hg, Nat.le_trans h.2 hg.size⟩) (fun b1 hb1 => ?_)
     try go_frame
     refine gm_app1 (.tmp 27) (.tmp 37) 71 rfl w5.heap.size 54 (.int .u64 0) 8 Tryz.underlying71 (by kernel_rfl) rfl (vK) (n) ((K64.take n).map u64v) rfl b1 (.int .u64 (y : Nat)) rfl rfl (by omega) (by omega) HSl.out (fun w1 hw1 h => ⟨h.1.1, h.1.2, (cell_of_row _ _ _ _ _ _ h.2).trans rfl⟩) (fun v' hv' hv2 => ?_)
     try go_frame
     refine gm_flo (.pointer (some ⟨b, 13, none⟩)) (fun w1 hw1 => ?_) ?_
     case refine_1 =>
       go_simp
     try go_frame
     refine gm_nil ?_
     intro w9 hw9 hF9
     simp only [List.drop]
     try go_frame
     obtain ⟨g', cap', rfl, _, _, _, _⟩ := hF9.cells hv'
     have hf : w9.frozen? ⟨b, 13, none⟩ = false := frozen_of_row _ _ _ _ _ (hw9.at NB.out (show wr.drew.heap[b]? = _ from ST.out.row))
     have hcc : w9.cell? ⟨b, 13, none⟩ = some vK := cellS hw9 bw.out NB.out CK.out
     have ST2 : Box (OSt w5 b 64 sh512 (.slice (some ⟨g', 0, none⟩) (n + 1) cap') vH (n + 1) (min n 8) (K64.take (n + 1)) (H64.take n) (w9.setCell ⟨b, 13, none⟩ (.slice (some ⟨g', 0, none⟩) (n + 1) cap'))) := ⟨by
       rw [KT.out, ← HY.out]; exact ST.out.drew.addK hw9 hF9 hv2 B5.out⟩
     clear hw9 hF9 hv2 hv' CK CW HSl NB NG bw gw ST HX HY KT hsh HCB
     go_upto_if 41 with (fail)
     generalize w9.setCell ⟨b, 13, none⟩ (.slice (some ⟨g', 0, none⟩) (n + 1) cap') = wq at ST2 ⊢
     clear hf hcc
     by_cases h8 : n < 8
     · have h8I : (n : Int) < 8 := by omega
       have m8 : min n 8 = n := by omega
       have m9 : min (n + 1) 8 = n + 1 := by omega
       rw [m8] at ST2
       have HA2 := HA.out h8
       have RL := root_lt p 2
       obtain ⟨x, hx⟩ : ∃ x, x = rootF p 2 := ⟨_, rfl⟩
       rw [← hx] at HA2 RL
       obtain ⟨y, hy⟩ : ∃ y, y = H64.getD n 0 := ⟨_, rfl⟩
       rw [← hy] at HA2
       have hsh : (x : Int) / 1 = (y : Int) := by omega
       have HX := Box.mk hx; have HY := Box.mk hy; have M9 := Box.mk m9
       have HT2 := Box.mk (HT.out (by rw [H64_len]; exact h8))
       have HCQ : Box (wq.drew.cell? ⟨gl, n, none⟩ = some (.int .i64 (p : Nat))) := ⟨(World.cell?_of_block (w := w5) (ST2.out.upd.block gl GL.out (by simpa using NL.out))).trans HC0.out⟩
       clear hx hy HA2 RL HA HT m8 m9 h8
       go_upto_region 12 with (fail)
       have CK : Box (wq.drew.cell? ⟨b, 14, none⟩ = some vH) := ⟨cell_of_row _ _ _ _ _ _ ST2.out.row⟩
       have CW : Box (wq.drew.cell? ⟨b, 0, none⟩ = some (.int .i64 64)) := ⟨cell_of_row _ _ _ _ _ _ ST2.out.row⟩
       have HSl : Box (∀ k, vH.ownBlock = some k → k ∈ vH.ownBlock.toList) := ⟨fun k hk => by rw [hk]; simp⟩
       have NB : Box (b ∉ vH.ownBlock.toList) := ⟨fun hm => Own.notK ST2.out.oH ST2.out.row b (by simpa using hm) rfl⟩
       have NG : Box (gl ∉ vH.ownBlock.toList) := ⟨fun hm => by have := (ST2.out.oH.lt gl (by simpa using hm)).1; have := GL.out; omega⟩
       have bw : Box (b < wq.drew.heap.size) := ⟨(Array.getElem?_eq_some_iff.1 ST2.out.row).1⟩
       have gw : Box (gl < wq.drew.heap.size) := ⟨Nat.lt_of_lt_of_le GL.out ST2.out.upd.size⟩
       refine wp_region_mixS vH.ownBlock.toList (fun w => Own w w5.heap.size 54 vH n ((H64.take n).map u64v) ∧ w5.heap.size ≤ w.heap.size) (fun w1 w2 hg h => ⟨h.1.below hg, Nat.le_trans h.2 hg.size⟩) ⟨ST2.out.oH.drew, ST2.out.upd.size⟩ (fun k hk => (ST2.out.oH.lt k (by simpa using hk)).2) 14 [.flo, .flo, .flo, .flo, .flo, .flo, .cha, .flo, .flo, .flo, .flo, .cha, .cha, .flo] (by kernel_rfl) (by kernel_rfl) rfl ?_
       simp only [List.take, List.zip, List.zipWith]
       try go_frame
       refine gm_flo (.pointer (some ⟨b, 14, none⟩)) (fun w1 hw1 => ?_) ?_
       case refine_1 =>
         go_simp
       try go_frame
       refine gm_flo (vH) (fun w1 hw1 => ?_) ?_
       case refine_1 =>
         have hc := cellS hw1 bw.out NB.out CK.out
         go_simp
       try go_frame
       refine gm_flo (.slice (some ⟨gl, 0, none⟩) 80 cl) (fun w1 hw1 => ?_) ?_
       case refine_1 =>
         go_simp
       try go_frame
       refine gm_flo (.int .i64 (n : Nat)) (fun w1 hw1 => ?_) ?_
       case refine_1 =>
         go_simp
       try go_frame
       refine gm_flo (.pointer (some ⟨gl, n, none⟩)) (fun w1 hw1 => ?_) ?_
       case refine_1 =>
         go_simp
       try go_frame
       refine gm_flo (.int .i64 (p : Nat)) (fun w1 hw1 => ?_) ?_
       case refine_1 =>
         have hc := cellS hw1 gw.out NG.out HCQ.out
         go_simp
       try go_frame
       refine gm_call [.int .i64 (p : Nat), .int .i64 2] (by kernel_rfl) rfl rfl (fun _ _ hg h => ⟨h.1.below hg, Nat.le_trans h.2 hg.size⟩) (fun w1 hw1 hF1 => (root_2 p w1 NR.out).mono ?_)
       rintro e w2 ⟨rfl, hw2⟩
       refine ⟨_, rfl, hw2, ?_⟩
       clear hw1 hF1 w1 hw2 w2
       try go_frame
       rw [← HX.out]
       refine gm_flo (.pointer (some ⟨b, 0, none⟩)) (fun w1 hw1 => ?_) ?_
       case refine_1 =>
         go_simp
       try go_frame
       refine gm_flo (.int .i64 64) (fun w1 hw1 => ?_) ?_
       case refine_1 =>
         have hc := cellS hw1 bw.out NB.out CW.out
         go_simp
       try go_frame
       refine gm_flo (.int .i64 0) (fun w1 hw1 => ?_) ?_
       case refine_1 =>
         have hwr : IntKind.i64.wrap 0 = 0 := rfl
         go_simp
       try go_frame
       refine gm_flo (.int .u64 (y : Nat)) (fun w1 hw1 => ?_) ?_
       case refine_1 =>
         go_simp
       try go_frame
       refine gm_one (e := 54) (.tmp 52) rfl (.int .u64 (y : Nat)) rfl (fun _ => by kernel_rfl) (fun _ _ hg h => ⟨h.1.below hg, Nat.le_trans h.2 hg.size⟩) (fun b1 hb1 => ?_)
       try go_frame
       refine gm_app1 (.tmp 43) (.tmp 53) 71 rfl w5.heap.size 54 (.int .u64 0) 8 Tryz.underlying71 (by kernel_rfl) rfl (vH) (n) ((H64.take n).map u64v) rfl b1 (.int .u64 (y : Nat)) rfl rfl (by omega) (by omega) HSl.out (fun w1 hw1 h => ⟨h.1.1, h.1.2, (cell_of_row _ _ _ _ _ _ h.2).trans rfl⟩) (fun v' hv' hv2 => ?_)
       try go_frame
       refine gm_flo (.pointer (some ⟨b, 14, none⟩)) (fun w1 hw1 => ?_) ?_
       case refine_1 =>
         go_simp
       try go_frame
       refine gm_nil ?_
       intro w9 hw9 hF9
       simp only [List.drop]
       try go_frame
       obtain ⟨g2, cap2, rfl, _, _, _, _⟩ := hF9.cells hv'
       have hf : w9.frozen? ⟨b, 14, none⟩ = false := frozen_of_row _ _ _ _ _ (hw9.at NB.out (show wq.drew.heap[b]? = _ from ST2.out.row))
       have hcc : w9.cell? ⟨b, 14, none⟩ = some vH := cellS hw9 bw.out NB.out CK.out
       have ST3 : Box (OSt w5 b 64 sh512 (.slice (some ⟨g', 0, none⟩) (n + 1) cap') (.slice (some ⟨g2, 0, none⟩) (n + 1) cap2) (n + 1) (n + 1) (K64.take (n + 1)) (H64.take (n + 1)) (w9.setCell ⟨b, 14, none⟩ (.slice (some ⟨g2, 0, none⟩) (n + 1) cap2))) := ⟨by
         rw [HT2.out, ← HY.out]; exact ST2.out.drew.addH hw9 hF9 hv2 B5.out⟩
       clear hw9 hF9 hv2 hv' CK CW HSl NB NG bw gw ST2 HX HY HT2 hsh HCQ
       go_wp2_with fail
       exact ⟨⟨n + 1, by omega, by go_num, _, _, by rw [M9.out]; exact ST3.out, fun _ => ⟨by simp, by simp⟩⟩, by simp [intOf]; omega⟩
     · have h8I : ¬ (n : Int) < 8 := by omega
       have M9 : Box (min (n + 1) 8 = min n 8) := ⟨by omega⟩
       have HTE : Box (H64.take (n + 1) = H64.take n) := ⟨by rw [List.take_of_length_le (by rw [H64_len]; omega), List.take_of_length_le (by rw [H64_len]; omega)]⟩
       have NN2 := Box.mk (NN.out (by omega)).2
       clear HA HT h8
       go_wp2_with fail
       exact ⟨⟨n + 1, by omega, by go_num, _, _, by rw [M9.out, HTE.out]; exact ST2.out, fun _ => ⟨by simp, NN2.out⟩⟩, by simp [intOf]; omega⟩
   · obtain rfl : n = 80 := by omega
     have NN := Box.mk (NN.out (by omega))
     have ST : Box (OSt w5 b 64 sh512 vK vH 80 8 K64 H64 wr) := ⟨by
       have := ST.out
       rwa [List.take_of_length_le (by rw [K64_len]; omega), List.take_of_length_le (by rw [H64_len]; omega)] at this⟩
     have NE2 : Box (b2 ∉ [b]) := ⟨by simpa using Ne.symm NE.out⟩
     have R2w : Box (wr.heap[b2]? = some (.cells (kc kz) 141 (0, 0))) := ⟨(ST.out.upd.block b2 (Array.getElem?_eq_some_iff.1 R25.out).1 NE2.out).trans R25.out⟩
     have HONE : Box ((kc ⟨64, sh512, vK, vH⟩).all (·.oneCell') = true) := ⟨by
       obtain ⟨g1, c1, h1, _⟩ := ST.out.oK.cells NN.out.1
       obtain ⟨g2, c2, h2, _⟩ := ST.out.oH.cells NN.out.2
       exact kc_one _ (by show vK.oneCell' = true; rw [h1]; rfl) (by show vH.oneCell' = true; rw [h2]; rfl)⟩
     clear hlt hn
     go_upto_region 13 with (fail)
     refine wp_region_seq 1 [.flo] (by rfl) rfl (by decide) ?_
     simp only [List.take, List.zip, List.zipWith]
     try go_frame
     refine gm_loadK (.tmp 3) rfl b ⟨64, sh512, vK, vH⟩ ST.out.row (by simp) rfl ?_
     try go_frame
     refine gm_nil ?_
     intro w9 hw9 hF9
     simp only [List.drop]
     try go_frame
     have R9 := Box.mk (hw9.block R2w.out)
     have RK := Box.mk (show (w9.setRow b2 (kc ⟨64, sh512, vK, vH⟩)).heap[b2]? = some (.cells (kc ⟨64, sh512, vK, vH⟩) 141 (0, 0)) from setRow_heap _ _ _ _ _ _ R9.out)
     have OK9 : Box (Own (w9.setRow b2 (kc ⟨64, sh512, vK, vH⟩)) w5.heap.size 54 vK 80 (K64.map u64v)) := ⟨(ST.out.oK.below hw9).keep fun k hk => setRow_other _ _ _ _ (Own.notK (ST.out.oK.below hw9) R9.out k hk)⟩
     have OH9 : Box (Own (w9.setRow b2 (kc ⟨64, sh512, vK, vH⟩)) w5.heap.size 54 vH 8 (H64.map u64v)) := ⟨(ST.out.oH.below hw9).keep fun k hk => setRow_other _ _ _ _ (Own.notK (ST.out.oH.below hw9) R9.out k hk)⟩
     have BL : Box (Below w.heap.size w (w9.setRow b2 (kc ⟨64, sh512, vK, vH⟩))) := ⟨below_setRow ((Upd.below HW5.out ST.out.upd (by intro i hi; simp at hi; subst hi; exact GB.out) HW5.out.size).trans (hw9.below.mono (Nat.le_trans HW5.out.size ST.out.upd.size))) G2.out _⟩
     have SZ : Box (w.heap.size ≤ w5.heap.size) := ⟨HW5.out.size⟩
     clear hw9 hF9
     refine wpList_storeK rfl (.tmp 2) (.tmp 56) rfl b2 ⟨64, sh512, vK, vH⟩ kz HONE.out R9.out rfl rfl ?_
     generalize w9.setRow b2 (kc ⟨64, sh512, vK, vH⟩) = wz at RK OK9 OH9 BL ⊢
     go_wp2_with fail
     refine bodyPost_ret (results_cell_row (p := 2) (ty := 141) rfl _ _ b2 141 (kc ⟨64, sh512, vK, vH⟩) (0, 0) _ rfl RK.out Tryz.underlying141 rfl (by kernel_rfl)) rfl ⟨vK, vH, rfl, OK9.out.base SZ.out, OH9.out.base SZ.out, NN.out.1, NN.out.2, BL.out⟩
open Go Go.RowKit
open Sha
theorem run_snd (B : Nat) (f : V8 → List UInt8 → V8) : ∀ n v l, (run B f n v l).2 = l.drop (B * n)
 | 0, v, l => by simp [run]
 | n + 1, v, l => by rw [run, run_snd B f n, List.drop_drop, Nat.mul_add, Nat.mul_one, Nat.add_comm]
theorem run_succ (B : Nat) (f : V8 → List UInt8 → V8) (n : Nat) (v : V8) (l : List UInt8) : (run B f (n + 1) v l).1 = f (run B f n v l).1 ((l.drop (B * n)).take B) := by
 rw [run_add, run_snd]; rfl
theorem wordsOf_take (n : Nat) : ∀ c l, wordsOf n c (l.take (n * c)) = wordsOf n c l
 | 0, l => rfl
 | c + 1, l => by
   rw [wordsOf, wordsOf, List.take_take, List.drop_take, show min n (n * (c + 1)) = n from Nat.min_eq_left (by rw [Nat.mul_add]; omega), show n * (c + 1) - n = n * c from by rw [Nat.mul_add]; omega, wordsOf_take n c]
theorem be_stepL (l : List UInt8) (q j : Nat) (h : q + j < l.length) : be ((l.drop q).take (j + 1)) = 256 * be ((l.drop q).take j) + (l.getD (q + j) 0).toNat := by
 have hl : j < (l.drop q).length := by rw [List.length_drop]; omega
 rw [List.take_succ_eq_append_getElem hl, be_snoc, List.getElem_drop, List.getD_eq_getElem?_getD, List.getElem?_eq_getElem h]; rfl
theorem byv_at (L : List UInt8) (j : Nat) (h : j < L.length) : (L.map byv)[j]? = some (.int .u8 ((L.getD j 0).toNat : Nat)) := by
 rw [List.getElem?_map, List.getElem?_eq_getElem h, List.getD_eq_getElem?_getD, List.getElem?_eq_getElem h]; rfl
theorem plus_ok (W : Nat) (v u : V8) : (plus W v u).Ok W :=
 ⟨Nat.mod_lt _ (Nat.two_pow_pos _), Nat.mod_lt _ (Nat.two_pow_pos _), Nat.mod_lt _ (Nat.two_pow_pos _), Nat.mod_lt _ (Nat.two_pow_pos _), Nat.mod_lt _ (Nat.two_pow_pos _), Nat.mod_lt _ (Nat.two_pow_pos _), Nat.mod_lt _ (Nat.two_pow_pos _), Nat.mod_lt _ (Nat.two_pow_pos _)⟩
theorem H32_eq : H32 = k256.h.list := by unfold H32; rfl
theorem H64_eq : H64 = k512.h.list := by unfold H64; rfl
theorem K64_eq : K64 = K := by unfold K64; rfl
theorem step32_eq (v : V8) (l : List UInt8) : k256.step v (l.take 64) = blk 32 sh256 K32 v (wordsOf 4 16 l) := by
 rw [K32_eq, ← wordsOf_take 4 16 l]; rfl
theorem step64_eq (v : V8) (l : List UInt8) : k512.step v (l.take 128) = blk 64 sh512 K64 v (wordsOf 8 16 l) := by
 rw [K64_eq, ← wordsOf_take 8 16 l]; rfl
theorem K32_lt : ∀ x ∈ K32, x < 2 ^ 64 := by rw [K32_eq]; decide +kernel
theorem K64_lt : ∀ x ∈ K64, x < 2 ^ 64 := by rw [K64_eq]; decide +kernel
theorem h32_ok : k256.h.Ok 32 := ⟨by decide, by decide, by decide, by decide, by decide, by decide, by decide, by decide⟩
theorem h64_ok : k512.h.Ok 64 := ⟨by decide, by decide, by decide, by decide, by decide, by decide, by decide, by decide⟩
structure KH (gK gH n : Nat) (Kl Hl : List Nat) (w : World) : Prop where
 cK : ∀ j, j < n → w.cell? ⟨gK, j, none⟩ = some (.int .u64 (Kl.getD j 0 : Nat))
 cH : ∀ j, j < 8 → w.cell? ⟨gH, j, none⟩ = some (.int .u64 (Hl.getD j 0 : Nat))
 lK : gK < w.heap.size
 lH : gH < w.heap.size
theorem size_listB (s : ByteArray) : s.data.toList.length = s.size := by simp
theorem KH.below {gK gH n : Nat} {Kl Hl : List Nat} {w w' : World} (h : KH gK gH n Kl Hl w) (hb : Below w.heap.size w w') : KH gK gH n Kl Hl w' :=
 ⟨fun j hj => (hb.cell (p := ⟨gK, j, none⟩) h.lK).trans (h.cK j hj), fun j hj => (hb.cell (p := ⟨gH, j, none⟩) h.lH).trans (h.cH j hj), Nat.lt_of_lt_of_le h.lK hb.size, Nat.lt_of_lt_of_le h.lH hb.size⟩
theorem KH.stb (gK gH n : Nat) (Kl Hl : List Nat) : Stb (KH gK gH n Kl Hl) := fun _ _ hg h => h.below hg
theorem KH.setRow {gK gH n : Nat} {Kl Hl : List Nat} {w : World} (h : KH gK gH n Kl Hl w) {b : Nat} (h1 : b ≠ gK) (h2 : b ≠ gH) (cs : Array Value) : KH gK gH n Kl Hl (w.setRow b cs) :=
 ⟨fun j hj => (World.cell?_of_block (w := w) (setRow_other _ _ _ _ (Ne.symm h1))).trans (h.cK j hj), fun j hj => (World.cell?_of_block (w := w) (setRow_other _ _ _ _ (Ne.symm h2))).trans (h.cH j hj), by rw [setRow_size]; exact h.lK, by rw [setRow_size]; exact h.lH⟩
def padS32 (l : List UInt8) (m j : Nat) : List UInt8 := l ++ (128 : UInt8) :: (List.replicate m 0 ++ (bytesOf (8 * l.length) 8).take j)
theorem padS32_zero (l : List UInt8) (m : Nat) : padS32 l (m + 1) 0 = padS32 l m 0 ++ [0] := by simp [padS32, List.replicate_succ']
theorem padS32_step (l : List UInt8) (m j : Nat) (h : j < 8) : padS32 l m (j + 1) = padS32 l m j ++ [UInt8.ofNat (8 * l.length / 256 ^ (8 - 1 - j))] := by
 simp [padS32, bytesOf_step _ _ _ h]
theorem padS32_all (l : List UInt8) : padS32 l (zeros 64 l.length) 8 = l ++ padB 64 l.length := by
 unfold padS32 padB
 rw [List.take_of_length_le (by rw [bytesOf_len]; exact Nat.le_refl _)]
theorem zeros32 (n : Nat) : (n + 1 + zeros 64 n + 8) % 64 = 0 ∧ ∀ j, j < zeros 64 n → (n + 1 + j + 8) % 64 ≠ 0 := by
 unfold zeros
 exact ⟨by omega, fun j hj => by omega⟩
set_option maxRecDepth 100000 in
set_option maxHeartbeats 8000000 in
theorem one32_any (s : ByteArray) (hs : s.size ≤ 900000) (w : World) :
   Calls Tryz.prog 79 #[.int .i64 0, .string s] w fun e w' => e = .returned (.tuple #[.string ⟨(k256.sum s.data.toList).toArray⟩, .int .i64 0]) ∧ Below w.heap.size w w' := by
 obtain ⟨R, hR⟩ : ∃ R, R = k256.sum s.data.toList := ⟨_, rfl⟩
 rw [← hR]
 have HR := Box.mk hR; have HS := Box.mk hs
 clear hR hs
 go_enter Tryz.func79, Tryz.ntmps79
 go_upto_region 3 with (fail)
 refine wp_region_seq 4 [.flo, .cha, .new (.cells (kc kz) 141), .cha] (by rfl) rfl (by decide) ?_
 simp only [List.take, List.zip, List.zipWith]
 try go_frame
 refine gm_move (.tmp 0) (.inl rfl) (.int .i64 0) rfl ?_
 try go_frame
 refine gm_callF [.int .i64 0] (by kernel_rfl) rfl rfl (fun w1 hw1 _ => (of32_any w1).mono ?_)
 rintro e w2 ⟨vK, vH, rfl, oK, oH, nK, nH, hw2⟩
 obtain ⟨gK, cK, rfl, hgK, hcK, hlK, _⟩ := oK.cells nK
 obtain ⟨gH, cH, rfl, hgH, hcH, hlH, _⟩ := oH.cells nH
 have oK' := oK.base hw1.size; have oH' := oH.base hw1.size
 refine ⟨_, rfl, hw2, KH gK gH 64 K32 H32, [gK, gH], KH.stb _ _ _ _ _, ?_, ?_, ?_⟩
 · exact ⟨fun j hj => hcK j _ (map_at _ _ (by rw [K32_len]; exact hj)), fun j hj => hcH j _ (map_at _ _ (by rw [H32_len]; exact hj)), hlK, hlH⟩
 · intro b hb
   simp at hb
   rcases hb with rfl | rfl
   · exact ⟨hgK, hlK⟩
   · exact ⟨hgH, hlH⟩
 clear hcK hcH hlK hlH oK oH oK' oH' nK nH hw1 hw2 hgK hgH
 try go_frame
 refine gm_alloc rfl (.cells (kc kz) 141) (fun _ => by kernel_rfl) (fun b6 hb6 hn6 => ?_)
 try go_frame
 have n1 : b6 ≠ gK := fun h => hn6 (by simp [h])
 have n2 : b6 ≠ gH := fun h => hn6 (by simp [h])
 refine gm_storeN (.tmp 6) (.tmp 26) rfl b6 (kc kz) (kc ⟨32, sh256, .slice (some ⟨gK, 0, none⟩) 64 cK, .slice (some ⟨gH, 0, none⟩) 8 cH⟩) 141 rfl rfl (by simp) rfl kc_info rfl (kc_one _ rfl rfl) (KH gK gH 64 K32 H32) (fun _ h => h) (KH.stb _ _ _ _ _) (fun _ h => h.setRow n1 n2 _) ?_
 try go_frame
 refine gm_nil ?_
 intro w1 hw1 hF1
 simp only [List.drop]
 try go_frame
 have B1 := Box.mk hw1.below; have HK := Box.mk hF1.1; have R6 := Box.mk hF1.2
 clear hw1 hF1 n1 n2 hb6 hn6
 obtain ⟨SB, hSB⟩ : ∃ SB, SB = w1.heap.size := ⟨_, rfl⟩
 have hrl : s.size = s.data.toList.length := (size_listB s).symm
 obtain ⟨l, hl⟩ : ∃ l, l = s.data.toList := ⟨_, rfl⟩
 obtain ⟨cap, C, fr, hcv, hown⟩ := run_tobytes (P := Tryz.prog) 9 29 5 s Tryz.underlying9 Tryz.underlying29 Tryz.underlying5 (by have := HS.out; omega) SB w1 (by omega)
 rw [← hl] at hrl hown
 rw [hrl] at hcv hown
 have HSZ := Box.mk hrl; have HLL : Box (l.length ≤ 900000) := ⟨by have := HS.out; omega⟩
 have HOWN := Box.mk hown; have HR : Box (R = k256.sum l) := ⟨by rw [HR.out, hl]⟩
 have hB0 : ∀ D, Below SB w1 ((w1.alloc (.cells C 5 fr)).alloc D).drew := fun D => (((Below.refl _ _).alloc (by omega) _).alloc (by simp; omega) _).drew
 have hsz0 : ∀ D, SB ≤ ((w1.alloc (.cells C 5 fr)).alloc D).drew.heap.size := fun D => by simp; omega
 have hc0 : ∀ (A : Obj) (y : Value), ((w1.alloc A).alloc (.cells #[y] 5)).drew.cell? ⟨w1.heap.size + 1, 0, none⟩ = some y := fun A y => by
   have := heap_alloc_new (w1.alloc A) (.cells #[y] 5)
   rw [World.size_alloc] at this
   exact (cell_of_row (w1.alloc A |>.alloc _) _ 0 _ _ _ this)
 have HB0 := Box.mk hB0; have HSZ0 := Box.mk hsz0; have HC0 := Box.mk hc0; have HSB := Box.mk hSB
 have hl5 : l.length + 1 ≤ 1000000000 := by have := HLL.out; omega
 clear hB0 hsz0 hc0 hown hrl hl hSB HS
 go_wp2_with (at_builtin; refine wpList_app1 (w0 := w1) rfl (.tmp 28) (.tmp 29) 29 rfl SB 5 (.int .u8 0) 1 Tryz.underlying29 (by kernel_rfl) rfl (.slice (some ⟨w1.heap.size, 0, none⟩) l.length cap) l.length (l.map byv) rfl (HOWN.out.alloc _).drew (HB0.out _) (HSZ0.out _) (w1.heap.size + 1) (.int .u8 128) rfl (HC0.out _ _) rfl hl5 (by omega) ?_)
 intro v1 w2 hown1 hbel1 hsz1 _ hnn1
 have HO1 := Box.mk hown1; have HB1 := Box.mk hbel1; have HNN1 := Box.mk hnn1; have HSZ1 := Box.mk hsz1
 clear hown1 hbel1 hnn1 hsz1 HOWN hcv HC0 HB0 HSZ0 hl5
 obtain ⟨g1, cap1, rfl, _⟩ := HO1.out.cells HNN1.out
 clear HNN1
 obtain ⟨hz1, hz2⟩ := zeros32 l.length
 obtain ⟨Z, hZ⟩ : ∃ Z, Z = zeros 64 l.length := ⟨_, rfl⟩
 rw [← hZ] at hz1 hz2
 have HZ := Box.mk hZ; have HZ1 := Box.mk hz1; have HZ2 := Box.mk hz2; have HZB : Box (Z < 64) := ⟨by rw [hZ]; exact Nat.mod_lt _ (by omega)⟩
 clear hZ hz1 hz2
 go_wp2_with fail
 go_loopw [7] (fun b wr => ∃ m g cap : Nat, m ≤ Z ∧ b = .slice (some ⟨g, 0, none⟩) (l.length + 1 + m) cap ∧ Own wr SB 5 b (l.length + 1 + m) ((padS32 l m 0).map byv) ∧ Below SB w1 wr ∧ SB ≤ wr.heap.size) (fun b _ => match b with | .slice _ n _ => l.length + 1000 - n | _ => 0)
 case atStart => exact ⟨0, g1, cap1, by omega, rfl, by have := HO1.out; simpa [padS32, byv] using this, HB1.out, HSZ1.out⟩
 case round =>
   clear HO1 HB1 HSZ1
   obtain ⟨m, g, cap, hm, rfl, hown, hbel, hsz⟩ := hrel
   have HO := Box.mk hown; have HB := Box.mk hbel; have HSZ2 := Box.mk hsz
   have r6 : wr.heap[b6]? = some (.cells (kc ⟨32, sh256, .slice (some ⟨gK, 0, none⟩) 64 cK, .slice (some ⟨gH, 0, none⟩) 8 cH⟩) 141 (0, 0)) := (hbel.block b6 (by rw [HSB.out]; exact (Array.getElem?_eq_some_iff.1 R6.out).1)).trans R6.out
   have cW : wr.cell? ⟨b6, 0, none⟩ = some (.int .i64 32) := cell_of_row _ _ _ _ _ _ r6
   clear hown hbel hsz r6
   obtain ⟨N, hN⟩ : ∃ N, N = l.length + 1 + m := ⟨_, rfl⟩
   rw [← hN] at HO ⊢
   have hNl : N ≤ 1000000 := by have := HLL.out; have := HZB.out; omega
   obtain ⟨N8, hN8⟩ : ∃ N8, N8 = N + 8 := ⟨_, rfl⟩
   obtain ⟨q, hq⟩ : ∃ q, q = N8 % 64 := ⟨_, rfl⟩
   have m1 : (32 : Int).tdiv 4 = 8 := by decide
   have m2 : IntKind.i64.wrap 8 = 8 := by decide
   have m3 : IntKind.i64.wrap ((N : Int) + 8) = (N8 : Int) := by rw [IntKind.wrap_i64]; omega
   have m4 : IntKind.i64.wrap (2 * 32) = 64 := by decide
   have m5 : (N8 : Int).tmod 64 = (q : Int) := by rw [Int.tmod_eq_emod_of_nonneg (by omega)]; omega
   have m6 : IntKind.i64.wrap (q : Int) = (q : Int) := by rw [IntKind.wrap_i64]; omega
   by_cases hlt : m < Z
   · have hne : q ≠ 0 := by
       have := HZ2.out m hlt
       rw [hq, hN8, hN]; exact this
     have hneB : ((q : Int) != 0) = true := by rw [bne_iff_ne]; omega
     have HN := Box.mk hN
     clear hne hq hN8 hN
     go_wp2_with (at_builtin; refine wpList_app1 (w0 := w1) rfl (.tmp 42) (.tmp 43) 29 rfl SB 5 (.int .u8 0) 1 Tryz.underlying29 (by kernel_rfl) rfl (.slice (some ⟨g, 0, none⟩) N cap) N ((padS32 l m 0).map byv) rfl (HO.out.alloc _) (HB.out.alloc HSZ2.out _) (by have := HSZ2.out; simp; omega) wr.heap.size (.int .u8 0) rfl (cell_new _ _ _) rfl (by omega) (by omega) ?_)
     intro v2 w3 hown2 hbel2 hsz2 _ hnn2
     obtain ⟨g2, cap2, rfl, _⟩ := hown2.cells hnn2
     have HO3 := Box.mk hown2; have HB3 := Box.mk hbel2; have HSZ3 := Box.mk hsz2
     clear hown2 hbel2 hnn2 hsz2 HO HB
     go_wp2
     refine ⟨⟨m + 1, g2, cap2, by omega, ?_, ?_, HB3.out, HSZ3.out⟩, ?_⟩
     · rw [show l.length + 1 + (m + 1) = N + 1 by have := HN.out; omega]
     · have := HO3.out
       rw [show l.length + 1 + (m + 1) = N + 1 by have := HN.out; omega, padS32_zero, List.map_append]
       exact this
     · have := HN.out
       have := HZB.out
       show l.length + 1000 - (N + 1) < l.length + 1000 - N
       omega
   · obtain rfl : Z = m := by omega
     have hq0 : q = 0 := by have := HZ1.out; omega
     have hneB : ((q : Int) != 0) = false := by rw [hq0]; rfl
     have HN := Box.mk hN
     clear hq hN8 hN hq0 hlt hm
     have m7 : IntKind.i64.wrap (8 - 1) = 7 := by decide
     go_wp2_with fail
     clear m1 m2 m3 m4 m5 m6 m7 hneB cW
     go_loopw [7, 8] (fun b i wr => ∃ j g cap : Nat, j ≤ 8 ∧ i = .int .i64 (7 - (j : Int)) ∧ b = .slice (some ⟨g, 0, none⟩) (N + j) cap ∧ Own wr SB 5 b (N + j) ((padS32 l Z j).map byv) ∧ Below SB w1 wr ∧ SB ≤ wr.heap.size) (fun _ i _ => (intOf i + 1).toNat)
     case atStart => exact ⟨0, g, cap, by omega, rfl, rfl, HO.out, HB.out, HSZ2.out⟩
     case round =>
       clear HO HB HSZ2
       obtain ⟨j, g, cap, hj, rfl, rfl, hown, hbel, hsz⟩ := hrel
       have HO := Box.mk hown; have HB := Box.mk hbel; have HSZ2 := Box.mk hsz
       clear hown hbel hsz
       by_cases hlt : j < 8
       · obtain ⟨c, hc⟩ : ∃ c : Nat, c = 7 - j := ⟨_, rfl⟩
         have hcI : (7 : Int) - (j : Int) = (c : Int) := by omega
         rw [hcI]
         have HC := Box.mk hc
         have HST := Box.mk (padS32_step l Z j hlt)
         obtain ⟨M, hM⟩ : ∃ M, M = N + j := ⟨_, rfl⟩
         have hM5 : M + 1 ≤ 1000000000 := by omega
         rw [← hM] at HO ⊢
         have HM := Box.mk hM
         obtain ⟨L8, hL8⟩ : ∃ L8, L8 = 8 * l.length := ⟨_, rfl⟩
         have hLI : (s.size : Int) = (l.length : Int) := by rw [HSZ.out]
         have hL1 : IntKind.u64.wrap (l.length : Int) = (l.length : Int) := by rw [IntKind.wrap_u64]; have := HLL.out; omega
         have hL2 : IntKind.u64.wrap ((l.length : Int) * 8) = (L8 : Int) := by rw [IntKind.wrap_u64]; have := HLL.out; omega
         have HY := Box.mk (show Value.int .u8 ((L8 : Int) / 2 ^ (8 * c) % 256) = byv (UInt8.ofNat (8 * l.length / 256 ^ (8 - 1 - j))) from by
           rw [shift_byte L8 (8 * c) (8 - 1 - j) (by omega), hL8])
         have HL8 := Box.mk hL8
         have HLB : Box (L8 ≤ 7200000) := ⟨by have := HLL.out; omega⟩
         clear hcI hL8 hM hc
         have hc8 : c < 8 := by have := HC.out; omega
         · have hcI : (c : Int) < 8 := by omega
           obtain ⟨t, ht⟩ : ∃ t, t = 8 * c := ⟨_, rfl⟩
           have htw : IntKind.i64.wrap (8 * (c : Int)) = (t : Int) := by rw [IntKind.wrap_i64]; omega
           have htm : min t 64 = t := by omega
           rw [← ht] at HY
           obtain ⟨y, hy⟩ : ∃ y, y = L8 / 2 ^ t := ⟨_, rfl⟩
           have htI : (L8 : Int) / 2 ^ min t 64 = (y : Int) := by rw [htm, hy]; simp
           have HY2 : Box (Value.int .u8 ((y : Int) % 256) = byv (UInt8.ofNat (8 * l.length / 256 ^ (8 - 1 - j)))) := ⟨by rw [← HY.out, hy]; simp⟩
           clear ht htm HY hc8 hy
           go_wp2_with (at_builtin; refine wpList_app1 (w0 := w1) rfl (.tmp 62) (.tmp 65) 29 rfl SB 5 (.int .u8 0) 1 Tryz.underlying29 (by kernel_rfl) rfl (.slice (some ⟨g, 0, none⟩) M cap) M ((padS32 l Z j).map byv) rfl (HO.out.alloc _) (HB.out.alloc HSZ2.out _) (by have := HSZ2.out; simp; omega) wr.heap.size (.int .u8 ((y : Int) % 256)) rfl (cell_new _ _ _) rfl hM5 (by omega) ?_)
           intro v2 w3 hown2 hbel2 hsz2 _ hnn2
           obtain ⟨g2, cap2, rfl, _⟩ := hown2.cells hnn2
           have HO3 := Box.mk hown2; have HB3 := Box.mk hbel2; have HSZ3 := Box.mk hsz2
           clear hown2 hbel2 hnn2 hsz2 HO HB
           go_wp2
           refine ⟨⟨j + 1, g2, cap2, by omega, int_congr (by have := HC.out; omega), ?_, ?_, HB3.out, HSZ3.out⟩, by have := HC.out; simp [intOf]⟩
           · rw [show N + (j + 1) = M + 1 by have := HM.out; omega]
           · have := HO3.out
             rw [show N + (j + 1) = M + 1 by have := HM.out; omega, HST.out, List.map_append]
             rw [HY2.out] at this
             exact this
       · obtain rfl : j = 8 := by omega
         have hlen := HO.out.1
         rw [HZ.out, padS32_all] at HO hlen
         rw [List.length_map] at hlen
         obtain ⟨Lb, hLb⟩ : ∃ Lb, Lb = l ++ padB 64 l.length := ⟨_, rfl⟩
         rw [← hLb] at HO hlen
         have HLb := Box.mk hLb
         obtain ⟨C, hC⟩ : ∃ C, N + 8 = 64 * C := ⟨(N + 8) / 64, by have := HN.out; have := HZ1.out; omega⟩
         have hC5 : 64 * C ≤ 1000000 := by rw [← hC]; omega
         rw [hC] at HO hlen ⊢
         obtain ⟨w3, rfl⟩ : ∃ w3 : World, w3 = wr := ⟨_, rfl⟩
         have HK3 := Box.mk (HK.out.below (HB.out.mono (by rw [HSB.out]; exact Nat.le_refl _)))
         have R63 := Box.mk ((HB.out.block b6 (by rw [HSB.out]; exact (Array.getElem?_eq_some_iff.1 R6.out).1)).trans R6.out)
         have OB := Box.mk HO.out
         have B3 := Box.mk (B1.out.trans (HB.out.mono (by rw [HSB.out]; exact B1.out.size)))
         have HLEN := Box.mk hlen
         have HRR : Box (R = (run 64 k256.step C k256.h Lb).1.list.flatMap fun x => bytesOf x 4) := ⟨by
           rw [HR.out]
           show ((blks 64 k256.step k256.h (l ++ padB 64 l.length)).1.list.flatMap fun x => bytesOf x 4) = _
           unfold blks
           rw [← HLb.out, HLEN.out, Nat.mul_div_cancel_left _ (by decide)]⟩
         clear hlt hj HN hC hlen hLb HLb HO HB HSZ2 HZ HZ1 HZ2 HZB HR HK R6 B1 HSB hNl HLL HSZ
         have cH : w3.cell? ⟨b6, 14, none⟩ = some (.slice (some ⟨gH, 0, none⟩) 8 cH) := cell_of_row _ _ _ _ _ _ R63.out
         have SUM0 : Box (∀ q, q < 8 → w3.cell? ⟨gH, q, none⟩ = some (.int .u64 ((run 64 k256.step 0 k256.h Lb).1.list.getD q 0 : Nat))) := ⟨fun q hq => by rw [HK3.out.cH q hq, H32_eq]; rfl⟩
         have LH0 : Box (gH < w3.heap.size) := ⟨HK3.out.lH⟩
         have OK0 : Box ((run 64 k256.step 0 k256.h Lb).1.Ok 32) := ⟨h32_ok⟩
         obtain ⟨gb, capb, hge, _, hbc, hbl, _⟩ := OB.out.cells (by simp)
         injection hge with h1 h2 h3
         injection h1 with h1
         injection h1 with h1
         subst h1
         have HBC : Box (∀ q, q < 64 * C → w3.cell? ⟨g, q, none⟩ = some (.int .u8 ((Lb.getD q 0).toNat : Nat))) := ⟨fun q hq => hbc q _ (byv_at _ _ (by have := HLEN.out; omega))⟩
         have HBL := Box.mk hbl
         clear hbc hbl h2 h3 OB
         go_wp2_with fail
         clear cH
         go_loopw [10, 11] (fun u i wr => ∃ c gs cs : Nat, c ≤ C ∧ i = .int .i64 (64 * (c : Int)) ∧ u = .slice (some ⟨gs, 0, none⟩) 8 cs ∧ gs < wr.heap.size ∧ (∀ q, q < 8 → wr.cell? ⟨gs, q, none⟩ = some (.int .u64 ((run 64 k256.step c k256.h Lb).1.list.getD q 0 : Nat))) ∧ (run 64 k256.step c k256.h Lb).1.Ok 32 ∧ Below w3.heap.size w3 wr) (fun _ i _ => 64 * C - (intOf i).toNat)
         case atStart => exact ⟨0, gH, _, by omega, rfl, rfl, LH0.out, SUM0.out, OK0.out, Below.refl _ _⟩
         case round =>
           clear SUM0 LH0 OK0
           obtain ⟨wo, rfl⟩ : ∃ wo : World, wo = wr := ⟨_, rfl⟩
           obtain ⟨c, gs, cs, hc, rfl, rfl, hgl, hsum, hok, hbel⟩ := hrel
           have HGL := Box.mk hgl; have HSUM := Box.mk hsum; have HOK := Box.mk hok; have HB := Box.mk hbel
           clear hgl hsum hok hbel
           have HKo := Box.mk (HK3.out.below HB.out)
           have R6o := Box.mk ((Gr.of HB.out).block R63.out)
           by_cases hlt : c < C
           · have hltI : 64 * (c : Int) < 64 * (C : Int) := by omega
             obtain ⟨SD, hSD⟩ : ∃ SD, SD = wo.heap.size := ⟨_, rfl⟩
             have o0 : Box (Own (wo.alloc (.cells #[] 54)) SD 54 (.slice (some ⟨wo.heap.size, 0, none⟩) 0 0) 0 ((wordsOf 4 0 (Lb.drop (64 * c))).map u64v)) := ⟨Own.made wo 54 #[] 0 SD (by omega) (by unfold maxLen; omega) rfl⟩
             have b0 : Box (Below SD wo (wo.alloc (.cells #[] 54))) := ⟨(Below.refl _ _).alloc (by omega) _⟩
             have s0 : Box (SD ≤ (wo.alloc (.cells #[] 54)).heap.size) := ⟨by simp; omega⟩
             have HSD := Box.mk hSD
             clear hSD
             go_wp2_with fail
             go_loopw [12, 13] (fun v i wr => ∃ t : Nat, t ≤ 16 ∧ i = .int .i64 t ∧ Own wr SD 54 v t ((wordsOf 4 t (Lb.drop (64 * c))).map u64v) ∧ v ≠ .slice none 0 0 ∧ Below SD wo wr ∧ SD ≤ wr.heap.size) (fun _ i _ => 16 - (intOf i).toNat)
             case atStart => exact ⟨0, by omega, rfl, o0.out, by simp, b0.out, s0.out⟩
             case round =>
               clear o0 b0 s0
               obtain ⟨wx, rfl⟩ : ∃ wx : World, wx = wr := ⟨_, rfl⟩
               obtain ⟨t, ht, rfl, hown, hne, hbel, hsz⟩ := hrel
               have OW := Box.mk hown; have NE := Box.mk hne; have HBx := Box.mk hbel; have HSx := Box.mk hsz
               clear hown hne hbel hsz
               have R6x := Box.mk ((HBx.out.block b6 (by rw [HSD.out]; exact (Array.getElem?_eq_some_iff.1 R6o.out).1)).trans R6o.out)
               by_cases htl : t < 16
               · obtain ⟨gw, cw, hve, _⟩ := OW.out.cells NE.out
                 subst hve
                 have htI : (t : Int) < 16 := by omega
                 have cW : wx.cell? ⟨b6, 0, none⟩ = some (.int .i64 32) := cell_of_row _ _ _ _ _ _ R6x.out
                 have HBx3 : Box (Below w3.heap.size w3 wx) := ⟨HB.out.trans (HBx.out.mono (by rw [HSD.out]; exact HB.out.size))⟩
                 obtain ⟨q, hq⟩ : ∃ q, q = 64 * c + 4 * t := ⟨_, rfl⟩
                 have HQL : Box (q + 4 ≤ 64 * C) := ⟨by omega⟩
                 have hqI : 64 * (c : Int) + 4 * (t : Int) = (q : Int) := by omega
                 have m1 : (32 : Int).tdiv 8 = 4 := by decide
                 have m2 : IntKind.i64.wrap 4 = 4 := by decide
                 have m3 : IntKind.i64.wrap ((t : Int) * 32) = (t : Int) * 32 := by rw [IntKind.wrap_i64]; omega
                 have m4 : ((t : Int) * 32).tdiv 8 = 4 * (t : Int) := by rw [Int.tdiv_eq_ediv_of_nonneg (by omega)]; omega
                 have m5 : IntKind.i64.wrap (4 * (t : Int)) = 4 * (t : Int) := by rw [IntKind.wrap_i64]; omega
                 have m6 : IntKind.i64.wrap (64 * (c : Int) + 4 * (t : Int)) = (q : Int) := by rw [IntKind.wrap_i64]; omega
                 have HWS := Box.mk (wordsOf_snoc 4 t (Lb.drop (64 * c)))
                 rw [List.drop_drop, ← hq] at HWS
                 clear hq
                 go_wp2_with fail
                 go_loop [14, 15] (fun x i => ∃ j : Nat, j ≤ 4 ∧ i = .int .i64 j ∧ x = .int .u64 (be ((Lb.drop q).take j) : Nat)) (fun _ i => 4 - (intOf i).toNat)
                 case atStart => exact ⟨0, by omega, rfl, by simp [be]⟩
                 case round =>
                   obtain ⟨j, hj, rfl, rfl⟩ := hrel
                   by_cases hjl : j < 4
                   · have hjI : (j : Int) < 4 := by omega
                     obtain ⟨p, hp⟩ : ∃ p, p = q + j := ⟨_, rfl⟩
                     have hst := be_stepL Lb q j (by have := HLEN.out; have := HQL.out; omega)
                     rw [← hp] at hst
                     have hbl : be ((Lb.drop q).take j) * 256 < 18446744073709551616 := by
                       have h1 := be_lt ((Lb.drop q).take j)
                       have h2 : ((Lb.drop q).take j).length ≤ 7 := by rw [List.length_take]; omega
                       have h3 : 256 ^ ((Lb.drop q).take j).length ≤ 256 ^ 7 := Nat.pow_le_pow_right (by omega) h2
                       omega
                     have hpB : p < 64 * C := by have := HQL.out; omega
                     have hpI : (p : Int) < 64 * (C : Int) := by omega
                     have hcc : wx.cell? ⟨g, p, none⟩ = some (.int .u8 ((Lb.getD p 0).toNat : Nat)) := (HBx3.out.cell (p := ⟨g, p, none⟩) HBL.out).trans (HBC.out p hpB)
                     have hb256 := (Lb.getD p 0).toNat_lt
                     generalize (Lb.getD p 0).toNat = b at hst hcc hb256
                     generalize be ((Lb.drop q).take j) = x at hst hbl
                     obtain ⟨y, hy⟩ : ∃ y, y = x * 256 := ⟨_, rfl⟩
                     have hw1 : IntKind.u64.wrap ((x : Int) * 256) = (y : Int) := by rw [IntKind.wrap_u64]; omega
                     have hw2 : IntKind.u64.wrap (b : Int) = (b : Int) := by rw [IntKind.wrap_u64]; omega
                     obtain ⟨z, hz⟩ : ∃ z, z = y + b := ⟨_, rfl⟩
                     have hw3 : IntKind.u64.wrap ((y : Int) + (b : Int)) = (z : Int) := by rw [IntKind.wrap_u64]; omega
                     have m7 : IntKind.i64.wrap ((q : Int) + (j : Int)) = (p : Int) := by rw [IntKind.wrap_i64]; omega
                     have HST : Box (be ((Lb.drop q).take (j + 1)) = z) := ⟨by rw [hst, hz, hy]; omega⟩
                     clear hst hbl hb256 hy hz hp hpB
                     go_wp2_with fail
                     exact ⟨⟨j + 1, by omega, by go_num, by rw [HST.out]⟩, by simp [intOf]; omega⟩
                   · obtain rfl : j = 4 := by omega
                     generalize be ((Lb.drop q).take 4) = x at HWS
                     go_wp2_with (at_builtin; refine wpList_app1 (w0 := wo) rfl (.tmp 106) (.tmp 108) 71 rfl SD 54 (.int .u64 0) 8 Tryz.underlying71 (by kernel_rfl) rfl (.slice (some ⟨gw, 0, none⟩) t cw) t ((wordsOf 4 t (Lb.drop (64 * c))).map u64v) rfl (OW.out.alloc _) (HBx.out.alloc HSx.out _) (by have := HSx.out; simp; omega) wx.heap.size (.int .u64 (x : Nat)) rfl (cell_new _ _ _) rfl (by omega) (by omega) ?_)
                     intro v2 w4 hown2 hbel2 hsz2 _ hnn2
                     have HO3 := Box.mk hown2; have HB4 := Box.mk hbel2; have HSZ3 := Box.mk hsz2; have NN := Box.mk hnn2
                     clear hown2 hbel2 hnn2 hsz2
                     go_wp2_with fail
                     exact ⟨⟨t + 1, by omega, by go_num, by rw [HWS.out, List.map_append]; exact HO3.out, NN.out, HB4.out, HSZ3.out⟩, by simp [intOf]; omega⟩
               · obtain rfl : t = 16 := by omega
                 have HSTEP : Box ((run 64 k256.step (c + 1) k256.h Lb).1 = blk 32 sh256 K32 (run 64 k256.step c k256.h Lb).1 (wordsOf 4 16 (Lb.drop (64 * c)))) := ⟨by rw [run_succ, step32_eq]⟩
                 have hblk := block_any ⟨32, sh256, .slice (some ⟨gK, 0, none⟩) 64 cK, .slice (some ⟨gH, 0, none⟩) 8 cH⟩ (.inl rfl) sh256_ok K32 K32_lt 64 K32_len (by omega) (by omega) gK cK rfl (run 64 k256.step c k256.h Lb).1 HOK.out gs cs (wordsOf 4 16 (Lb.drop (64 * c))) (wordsOf_len _ _ _) (fun x hx => wordsOf_lt 4 16 _ x hx) _ SD wx HSx.out
                   (by rw [HSD.out]; exact HKo.out.lK) (by rw [HSD.out]; exact HGL.out) (fun j hj => (HBx.out.cell (p := ⟨gK, j, none⟩) (by rw [HSD.out]; exact HKo.out.lK)).trans (HKo.out.cK j hj)) (fun j hj => (HBx.out.cell (p := ⟨gs, j, none⟩) (by rw [HSD.out]; exact HGL.out)).trans (HSUM.out j hj)) OW.out NE.out
                 have HBLK := Box.mk hblk
                 clear hblk htl
                 go_wp2_with ((with_reducible refine wpList_loadK rfl (.tmp 6) rfl b6 ⟨32, sh256, .slice (some ⟨gK, 0, none⟩) 64 cK, .slice (some ⟨gH, 0, none⟩) 8 cH⟩ R6x.out ?_ ?_); rfl)
                 refine HBLK.out.mono ?_
                 rintro e w5 ⟨g', rfl, _, hg', hcells, hb5⟩
                 have G5 := Box.mk hg'; have C5 := Box.mk hcells
                 have B5 : Box (Below w3.heap.size w3 w5) := ⟨HB.out.trans ((HBx.out.trans hb5).mono (by rw [HSD.out]; exact HB.out.size))⟩
                 clear hg' hcells hb5 HBLK
                 have hwB : IntKind.i64.wrap (2 * 32) = 64 := by decide
                 have hwi : IntKind.i64.wrap (64 * (c : Int) + 64) = 64 * (c : Int) + 64 := by rw [IntKind.wrap_i64]; omega
                 have cW : w5.cell? ⟨b6, 0, none⟩ = some (.int .i64 32) := cell_of_row _ _ _ _ _ _ ((Gr.of B5.out).block R63.out)
                 go_wp2_with fail
                 refine ⟨⟨c + 1, g', 8, by omega, int_congr (by omega), rfl, G5.out, by rw [HSTEP.out]; exact C5.out, by rw [HSTEP.out]; exact plus_ok _ _ _, B5.out⟩, by simp [intOf]; omega⟩
           · obtain rfl : c = C := by omega
             obtain ⟨Lq, hLq⟩ : ∃ L, L = (run 64 k256.step c k256.h Lb).1.list := ⟨_, rfl⟩
             have hLl : Lq.length = 8 := by rw [hLq]; rfl
             rw [← hLq] at HSUM HRR
             have HLl := Box.mk hLl
             have cW : wo.cell? ⟨b6, 0, none⟩ = some (.int .i64 32) := cell_of_row _ _ _ _ _ _ R6o.out
             obtain ⟨SE, hSE⟩ : ∃ SD, SD = wo.heap.size := ⟨_, rfl⟩
             have o0 : Box (Own (wo.alloc (.cells #[] 5)) SE 5 (.slice (some ⟨wo.heap.size, 0, none⟩) 0 0) (4 * 0) (((Lq.take 0).flatMap fun x => bytesOf x 4).map byv)) := ⟨by simpa using Own.made wo 5 #[] 0 SE (by omega) (by unfold maxLen; omega) rfl⟩
             have b0 : Box (Below SE wo (wo.alloc (.cells #[] 5))) := ⟨(Below.refl _ _).alloc (by omega) _⟩
             have s0 : Box (SE ≤ (wo.alloc (.cells #[] 5)).heap.size) := ⟨by simp; omega⟩
             have HSE := Box.mk hSE
             clear hSE hLl hLq hlt hc HOK
             go_wp2_with fail
             go_loopw [16, 17] (fun b i wr => ∃ n : Nat, n ≤ 8 ∧ i = .int .i64 n ∧ Own wr SE 5 b (4 * n) (((Lq.take n).flatMap fun x => bytesOf x 4).map byv) ∧ b ≠ .slice none 0 0 ∧ Below SE wo wr ∧ SE ≤ wr.heap.size) (fun _ i _ => 8 - (intOf i).toNat)
             case atStart => exact ⟨0, by omega, rfl, o0.out, by simp, b0.out, s0.out⟩
             case round =>
               clear o0 b0 s0 cW
               obtain ⟨n, hn, rfl, hown, hnn, hbel, hsz⟩ := hrel
               by_cases hlt : n < 8
               · have hnI : (n : Int) < 8 := by omega
                 have HSN := Box.mk (take_snoc' Lq n (by have := HLl.out; omega))
                 have HXC := Box.mk (HSUM.out n hlt)
                 generalize Lq.getD n 0 = x at HSN HXC
                 have HB2 := Box.mk hbel; have HOWN := Box.mk hown; have HNN := Box.mk hnn; have HSZ2 := Box.mk hsz
                 have cW : wr.cell? ⟨b6, 0, none⟩ = some (.int .i64 32) := cell_of_row _ _ _ _ _ _ ((hbel.block b6 (by rw [HSE.out]; exact (Array.getElem?_eq_some_iff.1 R6o.out).1)).trans R6o.out)
                 have m1 : IntKind.i64.wrap (32 - 8) = 24 := by decide
                 clear hbel hown hnn hsz
                 go_wp2_with fail
                 clear cW m1
                 go_loopw [16, 18] (fun b k wr => ∃ j : Nat, j ≤ 4 ∧ k = .int .i64 (24 - 8 * (j : Int)) ∧ Own wr SE 5 b (4 * n + j) ((((Lq.take n).flatMap fun x => bytesOf x 4) ++ (bytesOf x 4).take j).map byv) ∧ b ≠ .slice none 0 0 ∧ Below SE wo wr ∧ SE ≤ wr.heap.size) (fun _ k _ => (intOf k + 8).toNat)
                 case atStart => exact ⟨0, by omega, rfl, by simpa using HOWN.out, HNN.out, HB2.out, HSZ2.out⟩
                 case round =>
                   clear HOWN HB2 HNN HSZ2
                   obtain ⟨j, hj, rfl, hown, hnn, hbel, hsz⟩ := hrel
                   by_cases hjl : j < 4
                   · obtain ⟨gw, cw, rfl, _⟩ := hown.cells hnn
                     obtain ⟨c2, hc2⟩ : ∃ c2 : Nat, c2 = 24 - 8 * j := ⟨_, rfl⟩
                     have hcI : 24 - 8 * (j : Int) = (c2 : Int) := by omega
                     rw [hcI]
                     have hc0 : (0 : Int) ≤ (c2 : Int) := by omega
                     have hcU : (c2 : Int) < 64 := by omega
                     have HC2 := Box.mk hc2
                     have HY := Box.mk (shift_byte x c2 (4 - 1 - j) (by omega))
                     have HST := Box.mk (bytesOf_step x 4 j hjl)
                     have htm : min c2 64 = c2 := by omega
                     obtain ⟨y, hy⟩ : ∃ y, y = x / 2 ^ c2 := ⟨_, rfl⟩
                     have htI : (x : Int) / 2 ^ min c2 64 = (y : Int) := by rw [htm, hy]; simp
                     have htI2 : (x : Int) / 2 ^ c2 = (y : Int) := by rw [hy]; simp
                     have HY2 : Box (Value.int .u8 ((y : Int) % 256) = byv (UInt8.ofNat (x / 256 ^ (4 - 1 - j)))) := ⟨by rw [← HY.out, hy]; simp⟩
                     have hxc : wr.cell? ⟨gs, n, none⟩ = some (.int .u64 (x : Nat)) := (hbel.cell (p := ⟨gs, n, none⟩) (by rw [HSE.out]; exact HGL.out)).trans HXC.out
                     have HOWN := Box.mk hown; have HB2 := Box.mk hbel; have HSZ2 := Box.mk hsz
                     obtain ⟨M, hM⟩ : ∃ M, M = 4 * n + j := ⟨_, rfl⟩
                     rw [← hM] at HOWN ⊢
                     have hM5 : M + 1 ≤ 1000000000 := by omega
                     have HM := Box.mk hM
                     have hcw1 : IntKind.i64.wrap ((c2 : Int) - 8) = (c2 : Int) - 8 := by rw [IntKind.wrap_i64]; omega
                     clear hown hnn hbel hsz hy htm HY hM hc2 hcI
                     go_wp2_with (at_builtin; refine wpList_app1 (w0 := wo) rfl (.tmp 126) (.tmp 134) 29 rfl SE 5 (.int .u8 0) 1 Tryz.underlying29 (by kernel_rfl) rfl (.slice (some ⟨gw, 0, none⟩) M cw) M ((((Lq.take n).flatMap fun x => bytesOf x 4) ++ (bytesOf x 4).take j).map byv) rfl (HOWN.out.alloc _) (HB2.out.alloc HSZ2.out _) (by have := HSZ2.out; simp; omega) wr.heap.size (.int .u8 ((y : Int) % 256)) rfl (cell_new _ _ _) rfl hM5 (by omega) ?_)
                     intro v2 w4 hown2 hbel2 hsz2 _ hnn2
                     have HO3 := Box.mk hown2; have HB4 := Box.mk hbel2; have HSZ3 := Box.mk hsz2; have NN := Box.mk hnn2
                     clear hown2 hbel2 hnn2 hsz2
                     go_wp2_with fail
                     refine ⟨⟨j + 1, by omega, int_congr (by have := HC2.out; omega), ?_, NN.out, HB4.out, HSZ3.out⟩, by have := HC2.out; simp [intOf]; omega⟩
                     have := HO3.out
                     rw [HY2.out] at this
                     rw [show 4 * n + (j + 1) = M + 1 by have := HM.out; omega, HST.out]
                     simpa [List.map_append, List.map_take] using this
                   · obtain rfl : j = 4 := by omega
                     rw [(List.take_of_length_le (by rw [bytesOf_len]; exact Nat.le_refl _) : (bytesOf x 4).take 4 = bytesOf x 4)] at hown
                     have HOWN := Box.mk hown; have HB2 := Box.mk hbel; have HNN := Box.mk hnn; have HSZ2 := Box.mk hsz
                     clear hown hbel hnn hsz
                     go_wp2_with fail
                     exact ⟨⟨n + 1, by omega, by go_num, by rw [HSN.out, List.flatMap_append, Nat.mul_add, Nat.mul_one]; simpa using HOWN.out, HNN.out, HB2.out, HSZ2.out⟩, by simp [intOf]; omega⟩
               · obtain rfl : n = 8 := by omega
                 rw [List.take_of_length_le (by have := HLl.out; omega), ← HRR.out] at hown
                 have hcv := run_str_Own (P := Tryz.prog) (dst := 9) hown hnn Tryz.underlying29 Tryz.underlying5 Tryz.underlying9
                 have HBF : Box (Below w.heap.size w wr) := ⟨(B3.out.trans (HB.out.mono B3.out.size)).trans (hbel.mono (by rw [HSE.out]; exact Nat.le_trans B3.out.size HB.out.size))⟩
                 clear hown hnn hbel hsz hlt hn
                 go_wp2_with fail
                 go_ret2
                 exact ⟨rfl, HBF.out⟩
open Go Go.RowKit
open Sha
def padS64 (l : List UInt8) (m j : Nat) : List UInt8 := l ++ (128 : UInt8) :: (List.replicate m 0 ++ (bytesOf (8 * l.length) 16).take j)
theorem padS64_zero (l : List UInt8) (m : Nat) : padS64 l (m + 1) 0 = padS64 l m 0 ++ [0] := by simp [padS64, List.replicate_succ']
theorem padS64_step (l : List UInt8) (m j : Nat) (h : j < 16) : padS64 l m (j + 1) = padS64 l m j ++ [UInt8.ofNat (8 * l.length / 256 ^ (16 - 1 - j))] := by
 simp [padS64, bytesOf_step _ _ _ h]
theorem padS64_all (l : List UInt8) : padS64 l (zeros 128 l.length) 16 = l ++ padB 128 l.length := by
 unfold padS64 padB
 rw [List.take_of_length_le (by rw [bytesOf_len]; exact Nat.le_refl _)]
theorem zeros64 (n : Nat) : (n + 1 + zeros 128 n + 16) % 128 = 0 ∧ ∀ j, j < zeros 128 n → (n + 1 + j + 16) % 128 ≠ 0 := by
 unfold zeros
 exact ⟨by omega, fun j hj => by omega⟩
set_option maxRecDepth 100000 in
set_option maxHeartbeats 8000000 in
theorem one64_any (s : ByteArray) (hs : s.size ≤ 900000) (w : World) :
   Calls Tryz.prog 79 #[.int .i64 1, .string s] w fun e w' => e = .returned (.tuple #[.string ⟨(k512.sum s.data.toList).toArray⟩, .int .i64 0]) ∧ Below w.heap.size w w' := by
 obtain ⟨R, hR⟩ : ∃ R, R = k512.sum s.data.toList := ⟨_, rfl⟩
 rw [← hR]
 have HR := Box.mk hR; have HS := Box.mk hs
 clear hR hs
 go_enter Tryz.func79, Tryz.ntmps79
 go_upto_region 3 with (fail)
 refine wp_region_seq 4 [.flo, .cha, .new (.cells (kc kz) 141), .cha] (by rfl) rfl (by decide) ?_
 simp only [List.take, List.zip, List.zipWith]
 try go_frame
 refine gm_move (.tmp 0) (.inl rfl) (.int .i64 1) rfl ?_
 try go_frame
 refine gm_callF [.int .i64 1] (by kernel_rfl) rfl rfl (fun w1 hw1 _ => (of64_any w1).mono ?_)
 rintro e w2 ⟨vK, vH, rfl, oK, oH, nK, nH, hw2⟩
 obtain ⟨gK, cK, rfl, hgK, hcK, hlK, _⟩ := oK.cells nK
 obtain ⟨gH, cH, rfl, hgH, hcH, hlH, _⟩ := oH.cells nH
 have oK' := oK.base hw1.size; have oH' := oH.base hw1.size
 refine ⟨_, rfl, hw2, KH gK gH 80 K64 H64, [gK, gH], KH.stb _ _ _ _ _, ?_, ?_, ?_⟩
 · exact ⟨fun j hj => hcK j _ (map_at _ _ (by rw [K64_len]; exact hj)), fun j hj => hcH j _ (map_at _ _ (by rw [H64_len]; exact hj)), hlK, hlH⟩
 · intro b hb
   simp at hb
   rcases hb with rfl | rfl
   · exact ⟨hgK, hlK⟩
   · exact ⟨hgH, hlH⟩
 clear hcK hcH hlK hlH oK oH oK' oH' nK nH hw1 hw2 hgK hgH
 try go_frame
 refine gm_alloc rfl (.cells (kc kz) 141) (fun _ => by kernel_rfl) (fun b6 hb6 hn6 => ?_)
 try go_frame
 have n1 : b6 ≠ gK := fun h => hn6 (by simp [h])
 have n2 : b6 ≠ gH := fun h => hn6 (by simp [h])
 refine gm_storeN (.tmp 6) (.tmp 26) rfl b6 (kc kz) (kc ⟨64, sh512, .slice (some ⟨gK, 0, none⟩) 80 cK, .slice (some ⟨gH, 0, none⟩) 8 cH⟩) 141 rfl rfl (by simp) rfl kc_info rfl (kc_one _ rfl rfl) (KH gK gH 80 K64 H64) (fun _ h => h) (KH.stb _ _ _ _ _) (fun _ h => h.setRow n1 n2 _) ?_
 try go_frame
 refine gm_nil ?_
 intro w1 hw1 hF1
 simp only [List.drop]
 try go_frame
 have B1 := Box.mk hw1.below; have HK := Box.mk hF1.1; have R6 := Box.mk hF1.2
 clear hw1 hF1 n1 n2 hb6 hn6
 obtain ⟨SB, hSB⟩ : ∃ SB, SB = w1.heap.size := ⟨_, rfl⟩
 have hrl : s.size = s.data.toList.length := (size_listB s).symm
 obtain ⟨l, hl⟩ : ∃ l, l = s.data.toList := ⟨_, rfl⟩
 obtain ⟨cap, C, fr, hcv, hown⟩ := run_tobytes (P := Tryz.prog) 9 29 5 s Tryz.underlying9 Tryz.underlying29 Tryz.underlying5 (by have := HS.out; omega) SB w1 (by omega)
 rw [← hl] at hrl hown
 rw [hrl] at hcv hown
 have HSZ := Box.mk hrl; have HLL : Box (l.length ≤ 900000) := ⟨by have := HS.out; omega⟩
 have HOWN := Box.mk hown; have HR : Box (R = k512.sum l) := ⟨by rw [HR.out, hl]⟩
 have hB0 : ∀ D, Below SB w1 ((w1.alloc (.cells C 5 fr)).alloc D).drew := fun D => (((Below.refl _ _).alloc (by omega) _).alloc (by simp; omega) _).drew
 have hsz0 : ∀ D, SB ≤ ((w1.alloc (.cells C 5 fr)).alloc D).drew.heap.size := fun D => by simp; omega
 have hc0 : ∀ (A : Obj) (y : Value), ((w1.alloc A).alloc (.cells #[y] 5)).drew.cell? ⟨w1.heap.size + 1, 0, none⟩ = some y := fun A y => by
   have := heap_alloc_new (w1.alloc A) (.cells #[y] 5)
   rw [World.size_alloc] at this
   exact (cell_of_row (w1.alloc A |>.alloc _) _ 0 _ _ _ this)
 have HB0 := Box.mk hB0; have HSZ0 := Box.mk hsz0; have HC0 := Box.mk hc0; have HSB := Box.mk hSB
 have hl5 : l.length + 1 ≤ 1000000000 := by have := HLL.out; omega
 clear hB0 hsz0 hc0 hown hrl hl hSB HS
 go_wp2_with (at_builtin; refine wpList_app1 (w0 := w1) rfl (.tmp 28) (.tmp 29) 29 rfl SB 5 (.int .u8 0) 1 Tryz.underlying29 (by kernel_rfl) rfl (.slice (some ⟨w1.heap.size, 0, none⟩) l.length cap) l.length (l.map byv) rfl (HOWN.out.alloc _).drew (HB0.out _) (HSZ0.out _) (w1.heap.size + 1) (.int .u8 128) rfl (HC0.out _ _) rfl hl5 (by omega) ?_)
 intro v1 w2 hown1 hbel1 hsz1 _ hnn1
 have HO1 := Box.mk hown1; have HB1 := Box.mk hbel1; have HNN1 := Box.mk hnn1; have HSZ1 := Box.mk hsz1
 clear hown1 hbel1 hnn1 hsz1 HOWN hcv HC0 HB0 HSZ0 hl5
 obtain ⟨g1, cap1, rfl, _⟩ := HO1.out.cells HNN1.out
 clear HNN1
 obtain ⟨hz1, hz2⟩ := zeros64 l.length
 obtain ⟨Z, hZ⟩ : ∃ Z, Z = zeros 128 l.length := ⟨_, rfl⟩
 rw [← hZ] at hz1 hz2
 have HZ := Box.mk hZ; have HZ1 := Box.mk hz1; have HZ2 := Box.mk hz2; have HZB : Box (Z < 128) := ⟨by rw [hZ]; exact Nat.mod_lt _ (by omega)⟩
 clear hZ hz1 hz2
 go_wp2_with fail
 go_loopw [7] (fun b wr => ∃ m g cap : Nat, m ≤ Z ∧ b = .slice (some ⟨g, 0, none⟩) (l.length + 1 + m) cap ∧ Own wr SB 5 b (l.length + 1 + m) ((padS64 l m 0).map byv) ∧ Below SB w1 wr ∧ SB ≤ wr.heap.size) (fun b _ => match b with | .slice _ n _ => l.length + 1000 - n | _ => 0)
 case atStart => exact ⟨0, g1, cap1, by omega, rfl, by have := HO1.out; simpa [padS64, byv] using this, HB1.out, HSZ1.out⟩
 case round =>
   clear HO1 HB1 HSZ1
   obtain ⟨m, g, cap, hm, rfl, hown, hbel, hsz⟩ := hrel
   have HO := Box.mk hown; have HB := Box.mk hbel; have HSZ2 := Box.mk hsz
   have r6 : wr.heap[b6]? = some (.cells (kc ⟨64, sh512, .slice (some ⟨gK, 0, none⟩) 80 cK, .slice (some ⟨gH, 0, none⟩) 8 cH⟩) 141 (0, 0)) := (hbel.block b6 (by rw [HSB.out]; exact (Array.getElem?_eq_some_iff.1 R6.out).1)).trans R6.out
   have cW : wr.cell? ⟨b6, 0, none⟩ = some (.int .i64 64) := cell_of_row _ _ _ _ _ _ r6
   clear hown hbel hsz r6
   obtain ⟨N, hN⟩ : ∃ N, N = l.length + 1 + m := ⟨_, rfl⟩
   rw [← hN] at HO ⊢
   have hNl : N ≤ 1000000 := by have := HLL.out; have := HZB.out; omega
   obtain ⟨N8, hN8⟩ : ∃ N8, N8 = N + 16 := ⟨_, rfl⟩
   obtain ⟨q, hq⟩ : ∃ q, q = N8 % 128 := ⟨_, rfl⟩
   have m1 : (64 : Int).tdiv 4 = 16 := by decide
   have m2 : IntKind.i64.wrap 16 = 16 := by decide
   have m3 : IntKind.i64.wrap ((N : Int) + 16) = (N8 : Int) := by rw [IntKind.wrap_i64]; omega
   have m4 : IntKind.i64.wrap (2 * 64) = 128 := by decide
   have m5 : (N8 : Int).tmod 128 = (q : Int) := by rw [Int.tmod_eq_emod_of_nonneg (by omega)]; omega
   have m6 : IntKind.i64.wrap (q : Int) = (q : Int) := by rw [IntKind.wrap_i64]; omega
   by_cases hlt : m < Z
   · have hne : q ≠ 0 := by
       have := HZ2.out m hlt
       rw [hq, hN8, hN]; exact this
     have hneB : ((q : Int) != 0) = true := by rw [bne_iff_ne]; omega
     have HN := Box.mk hN
     clear hne hq hN8 hN
     go_wp2_with (at_builtin; refine wpList_app1 (w0 := w1) rfl (.tmp 42) (.tmp 43) 29 rfl SB 5 (.int .u8 0) 1 Tryz.underlying29 (by kernel_rfl) rfl (.slice (some ⟨g, 0, none⟩) N cap) N ((padS64 l m 0).map byv) rfl (HO.out.alloc _) (HB.out.alloc HSZ2.out _) (by have := HSZ2.out; simp; omega) wr.heap.size (.int .u8 0) rfl (cell_new _ _ _) rfl (by omega) (by omega) ?_)
     intro v2 w3 hown2 hbel2 hsz2 _ hnn2
     obtain ⟨g2, cap2, rfl, _⟩ := hown2.cells hnn2
     have HO3 := Box.mk hown2; have HB3 := Box.mk hbel2; have HSZ3 := Box.mk hsz2
     clear hown2 hbel2 hnn2 hsz2 HO HB
     go_wp2
     refine ⟨⟨m + 1, g2, cap2, by omega, ?_, ?_, HB3.out, HSZ3.out⟩, ?_⟩
     · rw [show l.length + 1 + (m + 1) = N + 1 by have := HN.out; omega]
     · have := HO3.out
       rw [show l.length + 1 + (m + 1) = N + 1 by have := HN.out; omega, padS64_zero, List.map_append]
       exact this
     · have := HN.out
       have := HZB.out
       show l.length + 1000 - (N + 1) < l.length + 1000 - N
       omega
   · obtain rfl : Z = m := by omega
     have hq0 : q = 0 := by have := HZ1.out; omega
     have hneB : ((q : Int) != 0) = false := by rw [hq0]; rfl
     have HN := Box.mk hN
     clear hq hN8 hN hq0 hlt hm
     have m7 : IntKind.i64.wrap (16 - 1) = 15 := by decide
     go_wp2_with fail
     clear m1 m2 m3 m4 m5 m6 m7 hneB cW
     go_loopw [7, 8] (fun b i wr => ∃ j g cap : Nat, j ≤ 16 ∧ i = .int .i64 (15 - (j : Int)) ∧ b = .slice (some ⟨g, 0, none⟩) (N + j) cap ∧ Own wr SB 5 b (N + j) ((padS64 l Z j).map byv) ∧ Below SB w1 wr ∧ SB ≤ wr.heap.size) (fun _ i _ => (intOf i + 1).toNat)
     case atStart => exact ⟨0, g, cap, by omega, rfl, rfl, HO.out, HB.out, HSZ2.out⟩
     case round =>
       clear HO HB HSZ2
       obtain ⟨j, g, cap, hj, rfl, rfl, hown, hbel, hsz⟩ := hrel
       have HO := Box.mk hown; have HB := Box.mk hbel; have HSZ2 := Box.mk hsz
       clear hown hbel hsz
       by_cases hlt : j < 16
       · obtain ⟨c, hc⟩ : ∃ c : Nat, c = 15 - j := ⟨_, rfl⟩
         have hcI : (15 : Int) - (j : Int) = (c : Int) := by omega
         rw [hcI]
         have HC := Box.mk hc
         have HST := Box.mk (padS64_step l Z j hlt)
         obtain ⟨M, hM⟩ : ∃ M, M = N + j := ⟨_, rfl⟩
         have hM5 : M + 1 ≤ 1000000000 := by omega
         rw [← hM] at HO ⊢
         have HM := Box.mk hM
         obtain ⟨L8, hL8⟩ : ∃ L8, L8 = 8 * l.length := ⟨_, rfl⟩
         have hLI : (s.size : Int) = (l.length : Int) := by rw [HSZ.out]
         have hL1 : IntKind.u64.wrap (l.length : Int) = (l.length : Int) := by rw [IntKind.wrap_u64]; have := HLL.out; omega
         have hL2 : IntKind.u64.wrap ((l.length : Int) * 8) = (L8 : Int) := by rw [IntKind.wrap_u64]; have := HLL.out; omega
         have HY := Box.mk (show Value.int .u8 ((L8 : Int) / 2 ^ (8 * c) % 256) = byv (UInt8.ofNat (8 * l.length / 256 ^ (16 - 1 - j))) from by
           rw [shift_byte L8 (8 * c) (16 - 1 - j) (by omega), hL8])
         have HL8 := Box.mk hL8
         have HLB : Box (L8 ≤ 7200000) := ⟨by have := HLL.out; omega⟩
         clear hcI hL8 hM hc
         by_cases hc8 : c < 8
         · have hcI : (c : Int) < 8 := by omega
           obtain ⟨t, ht⟩ : ∃ t, t = 8 * c := ⟨_, rfl⟩
           have htw : IntKind.i64.wrap (8 * (c : Int)) = (t : Int) := by rw [IntKind.wrap_i64]; omega
           have htm : min t 64 = t := by omega
           rw [← ht] at HY
           obtain ⟨y, hy⟩ : ∃ y, y = L8 / 2 ^ t := ⟨_, rfl⟩
           have htI : (L8 : Int) / 2 ^ min t 64 = (y : Int) := by rw [htm, hy]; simp
           have HY2 : Box (Value.int .u8 ((y : Int) % 256) = byv (UInt8.ofNat (8 * l.length / 256 ^ (16 - 1 - j)))) := ⟨by rw [← HY.out, hy]; simp⟩
           clear ht htm HY hc8 hy
           go_wp2_with (at_builtin; refine wpList_app1 (w0 := w1) rfl (.tmp 62) (.tmp 65) 29 rfl SB 5 (.int .u8 0) 1 Tryz.underlying29 (by kernel_rfl) rfl (.slice (some ⟨g, 0, none⟩) M cap) M ((padS64 l Z j).map byv) rfl (HO.out.alloc _) (HB.out.alloc HSZ2.out _) (by have := HSZ2.out; simp; omega) wr.heap.size (.int .u8 ((y : Int) % 256)) rfl (cell_new _ _ _) rfl hM5 (by omega) ?_)
           intro v2 w3 hown2 hbel2 hsz2 _ hnn2
           obtain ⟨g2, cap2, rfl, _⟩ := hown2.cells hnn2
           have HO3 := Box.mk hown2; have HB3 := Box.mk hbel2; have HSZ3 := Box.mk hsz2
           clear hown2 hbel2 hnn2 hsz2 HO HB
           go_wp2
           refine ⟨⟨j + 1, g2, cap2, by omega, int_congr (by have := HC.out; omega), ?_, ?_, HB3.out, HSZ3.out⟩, by have := HC.out; simp [intOf]⟩
           · rw [show N + (j + 1) = M + 1 by have := HM.out; omega]
           · have := HO3.out
             rw [show N + (j + 1) = M + 1 by have := HM.out; omega, HST.out, List.map_append]
             rw [HY2.out] at this
             exact this
         · have hcI : ¬ (c : Int) < 8 := by omega
           have hcU : (c : Int) < 16 := by have := HC.out; omega
           have hwc : IntKind.i64.wrap ((c : Int) - 1) = (c : Int) - 1 := by rw [IntKind.wrap_i64]; omega
           have hwc2 : wrap64 ((c : Int) - 1) = (c : Int) - 1 := by unfold wrap64; omega
           have HY2 : Box (Value.int .u8 0 = byv (UInt8.ofNat (8 * l.length / 256 ^ (16 - 1 - j)))) := ⟨by
             rw [show 8 * l.length / 256 ^ (16 - 1 - j) = 0 from Nat.div_eq_of_lt (by
               have h1 := HLB.out
               have h2 : 256 ^ 8 ≤ 256 ^ (16 - 1 - j) := Nat.pow_le_pow_right (by omega) (by have := HC.out; omega)
               have h3 := HL8.out
               omega)]; rfl⟩
           clear HY hc8
           go_wp2_with (at_builtin; refine wpList_app1 (w0 := w1) rfl (.tmp 62) (.tmp 65) 29 rfl SB 5 (.int .u8 0) 1 Tryz.underlying29 (by kernel_rfl) rfl (.slice (some ⟨g, 0, none⟩) M cap) M ((padS64 l Z j).map byv) rfl (HO.out.alloc _) (HB.out.alloc HSZ2.out _) (by have := HSZ2.out; simp; omega) wr.heap.size (.int .u8 0) rfl (cell_new _ _ _) rfl hM5 (by omega) ?_)
           intro v2 w3 hown2 hbel2 hsz2 _ hnn2
           obtain ⟨g2, cap2, rfl, _⟩ := hown2.cells hnn2
           have HO3 := Box.mk hown2; have HB3 := Box.mk hbel2; have HSZ3 := Box.mk hsz2
           clear hown2 hbel2 hnn2 hsz2 HO HB
           go_wp2
           refine ⟨⟨j + 1, g2, cap2, by omega, int_congr (by have := HC.out; omega), ?_, ?_, HB3.out, HSZ3.out⟩, by have := HC.out; simp [intOf]⟩
           · rw [show N + (j + 1) = M + 1 by have := HM.out; omega]
           · have := HO3.out
             rw [show N + (j + 1) = M + 1 by have := HM.out; omega, HST.out, List.map_append]
             rw [HY2.out] at this
             exact this
       · obtain rfl : j = 16 := by omega
         have hlen := HO.out.1
         rw [HZ.out, padS64_all] at HO hlen
         rw [List.length_map] at hlen
         obtain ⟨Lb, hLb⟩ : ∃ Lb, Lb = l ++ padB 128 l.length := ⟨_, rfl⟩
         rw [← hLb] at HO hlen
         have HLb := Box.mk hLb
         obtain ⟨C, hC⟩ : ∃ C, N + 16 = 128 * C := ⟨(N + 16) / 128, by have := HN.out; have := HZ1.out; omega⟩
         have hC5 : 128 * C ≤ 1000000 := by rw [← hC]; omega
         rw [hC] at HO hlen ⊢
         obtain ⟨w3, rfl⟩ : ∃ w3 : World, w3 = wr := ⟨_, rfl⟩
         have HK3 := Box.mk (HK.out.below (HB.out.mono (by rw [HSB.out]; exact Nat.le_refl _)))
         have R63 := Box.mk ((HB.out.block b6 (by rw [HSB.out]; exact (Array.getElem?_eq_some_iff.1 R6.out).1)).trans R6.out)
         have OB := Box.mk HO.out
         have B3 := Box.mk (B1.out.trans (HB.out.mono (by rw [HSB.out]; exact B1.out.size)))
         have HLEN := Box.mk hlen
         have HRR : Box (R = (run 128 k512.step C k512.h Lb).1.list.flatMap fun x => bytesOf x 8) := ⟨by
           rw [HR.out]
           show ((blks 128 k512.step k512.h (l ++ padB 128 l.length)).1.list.flatMap fun x => bytesOf x 8) = _
           unfold blks
           rw [← HLb.out, HLEN.out, Nat.mul_div_cancel_left _ (by decide)]⟩
         clear hlt hj HN hC hlen hLb HLb HO HB HSZ2 HZ HZ1 HZ2 HZB HR HK R6 B1 HSB hNl HLL HSZ
         have cH : w3.cell? ⟨b6, 14, none⟩ = some (.slice (some ⟨gH, 0, none⟩) 8 cH) := cell_of_row _ _ _ _ _ _ R63.out
         have SUM0 : Box (∀ q, q < 8 → w3.cell? ⟨gH, q, none⟩ = some (.int .u64 ((run 128 k512.step 0 k512.h Lb).1.list.getD q 0 : Nat))) := ⟨fun q hq => by rw [HK3.out.cH q hq, H64_eq]; rfl⟩
         have LH0 : Box (gH < w3.heap.size) := ⟨HK3.out.lH⟩
         have OK0 : Box ((run 128 k512.step 0 k512.h Lb).1.Ok 64) := ⟨h64_ok⟩
         obtain ⟨gb, capb, hge, _, hbc, hbl, _⟩ := OB.out.cells (by simp)
         injection hge with h1 h2 h3
         injection h1 with h1
         injection h1 with h1
         subst h1
         have HBC : Box (∀ q, q < 128 * C → w3.cell? ⟨g, q, none⟩ = some (.int .u8 ((Lb.getD q 0).toNat : Nat))) := ⟨fun q hq => hbc q _ (byv_at _ _ (by have := HLEN.out; omega))⟩
         have HBL := Box.mk hbl
         clear hbc hbl h2 h3 OB
         go_wp2_with fail
         clear cH
         go_loopw [10, 11] (fun u i wr => ∃ c gs cs : Nat, c ≤ C ∧ i = .int .i64 (128 * (c : Int)) ∧ u = .slice (some ⟨gs, 0, none⟩) 8 cs ∧ gs < wr.heap.size ∧ (∀ q, q < 8 → wr.cell? ⟨gs, q, none⟩ = some (.int .u64 ((run 128 k512.step c k512.h Lb).1.list.getD q 0 : Nat))) ∧ (run 128 k512.step c k512.h Lb).1.Ok 64 ∧ Below w3.heap.size w3 wr) (fun _ i _ => 128 * C - (intOf i).toNat)
         case atStart => exact ⟨0, gH, _, by omega, rfl, rfl, LH0.out, SUM0.out, OK0.out, Below.refl _ _⟩
         case round =>
           clear SUM0 LH0 OK0
           obtain ⟨wo, rfl⟩ : ∃ wo : World, wo = wr := ⟨_, rfl⟩
           obtain ⟨c, gs, cs, hc, rfl, rfl, hgl, hsum, hok, hbel⟩ := hrel
           have HGL := Box.mk hgl; have HSUM := Box.mk hsum; have HOK := Box.mk hok; have HB := Box.mk hbel
           clear hgl hsum hok hbel
           have HKo := Box.mk (HK3.out.below HB.out)
           have R6o := Box.mk ((Gr.of HB.out).block R63.out)
           by_cases hlt : c < C
           · have hltI : 128 * (c : Int) < 128 * (C : Int) := by omega
             obtain ⟨SD, hSD⟩ : ∃ SD, SD = wo.heap.size := ⟨_, rfl⟩
             have o0 : Box (Own (wo.alloc (.cells #[] 54)) SD 54 (.slice (some ⟨wo.heap.size, 0, none⟩) 0 0) 0 ((wordsOf 8 0 (Lb.drop (128 * c))).map u64v)) := ⟨Own.made wo 54 #[] 0 SD (by omega) (by unfold maxLen; omega) rfl⟩
             have b0 : Box (Below SD wo (wo.alloc (.cells #[] 54))) := ⟨(Below.refl _ _).alloc (by omega) _⟩
             have s0 : Box (SD ≤ (wo.alloc (.cells #[] 54)).heap.size) := ⟨by simp; omega⟩
             have HSD := Box.mk hSD
             clear hSD
             go_wp2_with fail
             go_loopw [12, 13] (fun v i wr => ∃ t : Nat, t ≤ 16 ∧ i = .int .i64 t ∧ Own wr SD 54 v t ((wordsOf 8 t (Lb.drop (128 * c))).map u64v) ∧ v ≠ .slice none 0 0 ∧ Below SD wo wr ∧ SD ≤ wr.heap.size) (fun _ i _ => 16 - (intOf i).toNat)
             case atStart => exact ⟨0, by omega, rfl, o0.out, by simp, b0.out, s0.out⟩
             case round =>
               clear o0 b0 s0
               obtain ⟨wx, rfl⟩ : ∃ wx : World, wx = wr := ⟨_, rfl⟩
               obtain ⟨t, ht, rfl, hown, hne, hbel, hsz⟩ := hrel
               have OW := Box.mk hown; have NE := Box.mk hne; have HBx := Box.mk hbel; have HSx := Box.mk hsz
               clear hown hne hbel hsz
               have R6x := Box.mk ((HBx.out.block b6 (by rw [HSD.out]; exact (Array.getElem?_eq_some_iff.1 R6o.out).1)).trans R6o.out)
               by_cases htl : t < 16
               · obtain ⟨gw, cw, hve, _⟩ := OW.out.cells NE.out
                 subst hve
                 have htI : (t : Int) < 16 := by omega
                 have cW : wx.cell? ⟨b6, 0, none⟩ = some (.int .i64 64) := cell_of_row _ _ _ _ _ _ R6x.out
                 have HBx3 : Box (Below w3.heap.size w3 wx) := ⟨HB.out.trans (HBx.out.mono (by rw [HSD.out]; exact HB.out.size))⟩
                 obtain ⟨q, hq⟩ : ∃ q, q = 128 * c + 8 * t := ⟨_, rfl⟩
                 have HQL : Box (q + 8 ≤ 128 * C) := ⟨by omega⟩
                 have hqI : 128 * (c : Int) + 8 * (t : Int) = (q : Int) := by omega
                 have m1 : (64 : Int).tdiv 8 = 8 := by decide
                 have m2 : IntKind.i64.wrap 8 = 8 := by decide
                 have m3 : IntKind.i64.wrap ((t : Int) * 64) = (t : Int) * 64 := by rw [IntKind.wrap_i64]; omega
                 have m4 : ((t : Int) * 64).tdiv 8 = 8 * (t : Int) := by rw [Int.tdiv_eq_ediv_of_nonneg (by omega)]; omega
                 have m5 : IntKind.i64.wrap (8 * (t : Int)) = 8 * (t : Int) := by rw [IntKind.wrap_i64]; omega
                 have m6 : IntKind.i64.wrap (128 * (c : Int) + 8 * (t : Int)) = (q : Int) := by rw [IntKind.wrap_i64]; omega
                 have HWS := Box.mk (wordsOf_snoc 8 t (Lb.drop (128 * c)))
                 rw [List.drop_drop, ← hq] at HWS
                 clear hq
                 go_wp2_with fail
                 go_loop [14, 15] (fun x i => ∃ j : Nat, j ≤ 8 ∧ i = .int .i64 j ∧ x = .int .u64 (be ((Lb.drop q).take j) : Nat)) (fun _ i => 8 - (intOf i).toNat)
                 case atStart => exact ⟨0, by omega, rfl, by simp [be]⟩
                 case round =>
                   obtain ⟨j, hj, rfl, rfl⟩ := hrel
                   by_cases hjl : j < 8
                   · have hjI : (j : Int) < 8 := by omega
                     obtain ⟨p, hp⟩ : ∃ p, p = q + j := ⟨_, rfl⟩
                     have hst := be_stepL Lb q j (by have := HLEN.out; have := HQL.out; omega)
                     rw [← hp] at hst
                     have hbl : be ((Lb.drop q).take j) * 256 < 18446744073709551616 := by
                       have h1 := be_lt ((Lb.drop q).take j)
                       have h2 : ((Lb.drop q).take j).length ≤ 7 := by rw [List.length_take]; omega
                       have h3 : 256 ^ ((Lb.drop q).take j).length ≤ 256 ^ 7 := Nat.pow_le_pow_right (by omega) h2
                       omega
                     have hpB : p < 128 * C := by have := HQL.out; omega
                     have hpI : (p : Int) < 128 * (C : Int) := by omega
                     have hcc : wx.cell? ⟨g, p, none⟩ = some (.int .u8 ((Lb.getD p 0).toNat : Nat)) := (HBx3.out.cell (p := ⟨g, p, none⟩) HBL.out).trans (HBC.out p hpB)
                     have hb256 := (Lb.getD p 0).toNat_lt
                     generalize (Lb.getD p 0).toNat = b at hst hcc hb256
                     generalize be ((Lb.drop q).take j) = x at hst hbl
                     obtain ⟨y, hy⟩ : ∃ y, y = x * 256 := ⟨_, rfl⟩
                     have hw1 : IntKind.u64.wrap ((x : Int) * 256) = (y : Int) := by rw [IntKind.wrap_u64]; omega
                     have hw2 : IntKind.u64.wrap (b : Int) = (b : Int) := by rw [IntKind.wrap_u64]; omega
                     obtain ⟨z, hz⟩ : ∃ z, z = y + b := ⟨_, rfl⟩
                     have hw3 : IntKind.u64.wrap ((y : Int) + (b : Int)) = (z : Int) := by rw [IntKind.wrap_u64]; omega
                     have m7 : IntKind.i64.wrap ((q : Int) + (j : Int)) = (p : Int) := by rw [IntKind.wrap_i64]; omega
                     have HST : Box (be ((Lb.drop q).take (j + 1)) = z) := ⟨by rw [hst, hz, hy]; omega⟩
                     clear hst hbl hb256 hy hz hp hpB
                     go_wp2_with fail
                     exact ⟨⟨j + 1, by omega, by go_num, by rw [HST.out]⟩, by simp [intOf]; omega⟩
                   · obtain rfl : j = 8 := by omega
                     generalize be ((Lb.drop q).take 8) = x at HWS
                     go_wp2_with (at_builtin; refine wpList_app1 (w0 := wo) rfl (.tmp 106) (.tmp 108) 71 rfl SD 54 (.int .u64 0) 8 Tryz.underlying71 (by kernel_rfl) rfl (.slice (some ⟨gw, 0, none⟩) t cw) t ((wordsOf 8 t (Lb.drop (128 * c))).map u64v) rfl (OW.out.alloc _) (HBx.out.alloc HSx.out _) (by have := HSx.out; simp; omega) wx.heap.size (.int .u64 (x : Nat)) rfl (cell_new _ _ _) rfl (by omega) (by omega) ?_)
                     intro v2 w4 hown2 hbel2 hsz2 _ hnn2
                     have HO3 := Box.mk hown2; have HB4 := Box.mk hbel2; have HSZ3 := Box.mk hsz2; have NN := Box.mk hnn2
                     clear hown2 hbel2 hnn2 hsz2
                     go_wp2_with fail
                     exact ⟨⟨t + 1, by omega, by go_num, by rw [HWS.out, List.map_append]; exact HO3.out, NN.out, HB4.out, HSZ3.out⟩, by simp [intOf]; omega⟩
               · obtain rfl : t = 16 := by omega
                 have HSTEP : Box ((run 128 k512.step (c + 1) k512.h Lb).1 = blk 64 sh512 K64 (run 128 k512.step c k512.h Lb).1 (wordsOf 8 16 (Lb.drop (128 * c)))) := ⟨by rw [run_succ, step64_eq]⟩
                 have hblk := block_any ⟨64, sh512, .slice (some ⟨gK, 0, none⟩) 80 cK, .slice (some ⟨gH, 0, none⟩) 8 cH⟩ (.inr rfl) sh512_ok K64 K64_lt 80 K64_len (by omega) (by omega) gK cK rfl (run 128 k512.step c k512.h Lb).1 HOK.out gs cs (wordsOf 8 16 (Lb.drop (128 * c))) (wordsOf_len _ _ _) (fun x hx => wordsOf_lt 8 16 _ x hx) _ SD wx HSx.out
                   (by rw [HSD.out]; exact HKo.out.lK) (by rw [HSD.out]; exact HGL.out) (fun j hj => (HBx.out.cell (p := ⟨gK, j, none⟩) (by rw [HSD.out]; exact HKo.out.lK)).trans (HKo.out.cK j hj)) (fun j hj => (HBx.out.cell (p := ⟨gs, j, none⟩) (by rw [HSD.out]; exact HGL.out)).trans (HSUM.out j hj)) OW.out NE.out
                 have HBLK := Box.mk hblk
                 clear hblk htl
                 go_wp2_with ((with_reducible refine wpList_loadK rfl (.tmp 6) rfl b6 ⟨64, sh512, .slice (some ⟨gK, 0, none⟩) 80 cK, .slice (some ⟨gH, 0, none⟩) 8 cH⟩ R6x.out ?_ ?_); rfl)
                 refine HBLK.out.mono ?_
                 rintro e w5 ⟨g', rfl, _, hg', hcells, hb5⟩
                 have G5 := Box.mk hg'; have C5 := Box.mk hcells
                 have B5 : Box (Below w3.heap.size w3 w5) := ⟨HB.out.trans ((HBx.out.trans hb5).mono (by rw [HSD.out]; exact HB.out.size))⟩
                 clear hg' hcells hb5 HBLK
                 have hwB : IntKind.i64.wrap (2 * 64) = 128 := by decide
                 have hwi : IntKind.i64.wrap (128 * (c : Int) + 128) = 128 * (c : Int) + 128 := by rw [IntKind.wrap_i64]; omega
                 have cW : w5.cell? ⟨b6, 0, none⟩ = some (.int .i64 64) := cell_of_row _ _ _ _ _ _ ((Gr.of B5.out).block R63.out)
                 go_wp2_with fail
                 refine ⟨⟨c + 1, g', 8, by omega, int_congr (by omega), rfl, G5.out, by rw [HSTEP.out]; exact C5.out, by rw [HSTEP.out]; exact plus_ok _ _ _, B5.out⟩, by simp [intOf]; omega⟩
           · obtain rfl : c = C := by omega
             obtain ⟨Lq, hLq⟩ : ∃ L, L = (run 128 k512.step c k512.h Lb).1.list := ⟨_, rfl⟩
             have hLl : Lq.length = 8 := by rw [hLq]; rfl
             rw [← hLq] at HSUM HRR
             have HLl := Box.mk hLl
             have cW : wo.cell? ⟨b6, 0, none⟩ = some (.int .i64 64) := cell_of_row _ _ _ _ _ _ R6o.out
             obtain ⟨SE, hSE⟩ : ∃ SD, SD = wo.heap.size := ⟨_, rfl⟩
             have o0 : Box (Own (wo.alloc (.cells #[] 5)) SE 5 (.slice (some ⟨wo.heap.size, 0, none⟩) 0 0) (8 * 0) (((Lq.take 0).flatMap fun x => bytesOf x 8).map byv)) := ⟨by simpa using Own.made wo 5 #[] 0 SE (by omega) (by unfold maxLen; omega) rfl⟩
             have b0 : Box (Below SE wo (wo.alloc (.cells #[] 5))) := ⟨(Below.refl _ _).alloc (by omega) _⟩
             have s0 : Box (SE ≤ (wo.alloc (.cells #[] 5)).heap.size) := ⟨by simp; omega⟩
             have HSE := Box.mk hSE
             clear hSE hLl hLq hlt hc HOK
             go_wp2_with fail
             go_loopw [16, 17] (fun b i wr => ∃ n : Nat, n ≤ 8 ∧ i = .int .i64 n ∧ Own wr SE 5 b (8 * n) (((Lq.take n).flatMap fun x => bytesOf x 8).map byv) ∧ b ≠ .slice none 0 0 ∧ Below SE wo wr ∧ SE ≤ wr.heap.size) (fun _ i _ => 8 - (intOf i).toNat)
             case atStart => exact ⟨0, by omega, rfl, o0.out, by simp, b0.out, s0.out⟩
             case round =>
               clear o0 b0 s0 cW
               obtain ⟨n, hn, rfl, hown, hnn, hbel, hsz⟩ := hrel
               by_cases hlt : n < 8
               · have hnI : (n : Int) < 8 := by omega
                 have HSN := Box.mk (take_snoc' Lq n (by have := HLl.out; omega))
                 have HXC := Box.mk (HSUM.out n hlt)
                 generalize Lq.getD n 0 = x at HSN HXC
                 have HB2 := Box.mk hbel; have HOWN := Box.mk hown; have HNN := Box.mk hnn; have HSZ2 := Box.mk hsz
                 have cW : wr.cell? ⟨b6, 0, none⟩ = some (.int .i64 64) := cell_of_row _ _ _ _ _ _ ((hbel.block b6 (by rw [HSE.out]; exact (Array.getElem?_eq_some_iff.1 R6o.out).1)).trans R6o.out)
                 have m1 : IntKind.i64.wrap (64 - 8) = 56 := by decide
                 clear hbel hown hnn hsz
                 go_wp2_with fail
                 clear cW m1
                 go_loopw [16, 18] (fun b k wr => ∃ j : Nat, j ≤ 8 ∧ k = .int .i64 (56 - 8 * (j : Int)) ∧ Own wr SE 5 b (8 * n + j) ((((Lq.take n).flatMap fun x => bytesOf x 8) ++ (bytesOf x 8).take j).map byv) ∧ b ≠ .slice none 0 0 ∧ Below SE wo wr ∧ SE ≤ wr.heap.size) (fun _ k _ => (intOf k + 8).toNat)
                 case atStart => exact ⟨0, by omega, rfl, by simpa using HOWN.out, HNN.out, HB2.out, HSZ2.out⟩
                 case round =>
                   clear HOWN HB2 HNN HSZ2
                   obtain ⟨j, hj, rfl, hown, hnn, hbel, hsz⟩ := hrel
                   by_cases hjl : j < 8
                   · obtain ⟨gw, cw, rfl, _⟩ := hown.cells hnn
                     obtain ⟨c2, hc2⟩ : ∃ c2 : Nat, c2 = 56 - 8 * j := ⟨_, rfl⟩
                     have hcI : 56 - 8 * (j : Int) = (c2 : Int) := by omega
                     rw [hcI]
                     have hc0 : (0 : Int) ≤ (c2 : Int) := by omega
                     have hcU : (c2 : Int) < 64 := by omega
                     have HC2 := Box.mk hc2
                     have HY := Box.mk (shift_byte x c2 (8 - 1 - j) (by omega))
                     have HST := Box.mk (bytesOf_step x 8 j hjl)
                     have htm : min c2 64 = c2 := by omega
                     obtain ⟨y, hy⟩ : ∃ y, y = x / 2 ^ c2 := ⟨_, rfl⟩
                     have htI : (x : Int) / 2 ^ min c2 64 = (y : Int) := by rw [htm, hy]; simp
                     have htI2 : (x : Int) / 2 ^ c2 = (y : Int) := by rw [hy]; simp
                     have HY2 : Box (Value.int .u8 ((y : Int) % 256) = byv (UInt8.ofNat (x / 256 ^ (8 - 1 - j)))) := ⟨by rw [← HY.out, hy]; simp⟩
                     have hxc : wr.cell? ⟨gs, n, none⟩ = some (.int .u64 (x : Nat)) := (hbel.cell (p := ⟨gs, n, none⟩) (by rw [HSE.out]; exact HGL.out)).trans HXC.out
                     have HOWN := Box.mk hown; have HB2 := Box.mk hbel; have HSZ2 := Box.mk hsz
                     obtain ⟨M, hM⟩ : ∃ M, M = 8 * n + j := ⟨_, rfl⟩
                     rw [← hM] at HOWN ⊢
                     have hM5 : M + 1 ≤ 1000000000 := by omega
                     have HM := Box.mk hM
                     have hcw1 : IntKind.i64.wrap ((c2 : Int) - 8) = (c2 : Int) - 8 := by rw [IntKind.wrap_i64]; omega
                     clear hown hnn hbel hsz hy htm HY hM hc2 hcI
                     go_wp2_with (at_builtin; refine wpList_app1 (w0 := wo) rfl (.tmp 126) (.tmp 134) 29 rfl SE 5 (.int .u8 0) 1 Tryz.underlying29 (by kernel_rfl) rfl (.slice (some ⟨gw, 0, none⟩) M cw) M ((((Lq.take n).flatMap fun x => bytesOf x 8) ++ (bytesOf x 8).take j).map byv) rfl (HOWN.out.alloc _) (HB2.out.alloc HSZ2.out _) (by have := HSZ2.out; simp; omega) wr.heap.size (.int .u8 ((y : Int) % 256)) rfl (cell_new _ _ _) rfl hM5 (by omega) ?_)
                     intro v2 w4 hown2 hbel2 hsz2 _ hnn2
                     have HO3 := Box.mk hown2; have HB4 := Box.mk hbel2; have HSZ3 := Box.mk hsz2; have NN := Box.mk hnn2
                     clear hown2 hbel2 hnn2 hsz2
                     go_wp2_with fail
                     refine ⟨⟨j + 1, by omega, int_congr (by have := HC2.out; omega), ?_, NN.out, HB4.out, HSZ3.out⟩, by have := HC2.out; simp [intOf]; omega⟩
                     have := HO3.out
                     rw [HY2.out] at this
                     rw [show 8 * n + (j + 1) = M + 1 by have := HM.out; omega, HST.out]
                     simpa [List.map_append, List.map_take] using this
                   · obtain rfl : j = 8 := by omega
                     rw [(List.take_of_length_le (by rw [bytesOf_len]; exact Nat.le_refl _) : (bytesOf x 8).take 8 = bytesOf x 8)] at hown
                     have HOWN := Box.mk hown; have HB2 := Box.mk hbel; have HNN := Box.mk hnn; have HSZ2 := Box.mk hsz
                     clear hown hbel hnn hsz
                     go_wp2_with fail
                     exact ⟨⟨n + 1, by omega, by go_num, by rw [HSN.out, List.flatMap_append, Nat.mul_add, Nat.mul_one]; simpa using HOWN.out, HNN.out, HB2.out, HSZ2.out⟩, by simp [intOf]; omega⟩
               · obtain rfl : n = 8 := by omega
                 rw [List.take_of_length_le (by have := HLl.out; omega), ← HRR.out] at hown
                 have hcv := run_str_Own (P := Tryz.prog) (dst := 9) hown hnn Tryz.underlying29 Tryz.underlying5 Tryz.underlying9
                 have HBF : Box (Below w.heap.size w wr) := ⟨(B3.out.trans (HB.out.mono B3.out.size)).trans (hbel.mono (by rw [HSE.out]; exact Nat.le_trans B3.out.size HB.out.size))⟩
                 clear hown hnn hbel hsz hlt hn
                 go_wp2_with fail
                 go_ret2
                 exact ⟨rfl, HBF.out⟩
end Go.Proofs.YtafhncpaoolljaaGreat.Big
