/- Whatever number and script come in, the call of LogsKeeps returns true and leaves its arguments as they were. No condition. -/
import Derived.Test.YtjednaendedpdaaGreatM21
import Derived.Test.YtjednaendedpdaaGreatM22
import Derived.Deep.DeepCutAuto
import Derived.Deep.CutBlock
import Derived.IntWalk
import Derived.ProofKit
import Derived.OpenShut
import Derived.ShutString
import Derived.ChangeOld
namespace Go.Proofs.YtjednaendedpdaaGreat.logsKeeps
set_option maxRecDepth 100000
open Go Go.RowKit Go.ChangeShapes Go.WideShapes Go.ChangeAt Sha
open Go.ChangeMaps (open_string shut_string)
set_option linter.unusedVariables false

theorem open_ops {H : Type} {enc : TypeId × Value → H} {w : World} {base : Nat} {spare : Nat → Bool} {held : Bool} {r : Reach} {b0 : Nat} {v : Value} {d : DataW H} {p : List MemPlace}
    (hv : Value.okWide Tryz.prog w r b0 48 v) (h : DataW.Trod enc Tryz.prog w base spare held 48 v d p) : ∃ l, ScriptS w v l := by
  obtain ⟨a0, len, cap, rfl⟩ := okWide_slice Tryz.underlying48 hv
  obtain ⟨fuel, hf⟩ := h
  exact ScriptS.of_reads Tryz.underlying48 Tryz.underlying53 (by kernel_rfl) (by kernel_rfl) rfl rfl rfl rfl rfl Tryz.underlying3 Tryz.underlying9 Tryz.underlying5 ⟨_, fuel, hf⟩
def strB (l : List (List UInt8)) : List ByteArray := l.map fun r => ⟨r.toArray⟩
theorem recN_len (s : List UInt8) : ∀ n p, (recN s n p).length ≤ n
  | 0, _ => Nat.le_refl _
  | n + 1, p => by
    have := recN_len s n (p + 1)
    rw [recN]; split
    · simp; exact this
    · omega
/-- A call of the script in a block of its own. -/
def obK (o : OpS) : Obj := .cells #[.int .i64 o.k, .int .i64 o.n, .int .i64 o.a, .int .u8 (o.m.toNat : Int), .string o.s] 53
theorem obK_cells {w : World} {k : Nat} {o : OpS} (h : w.heap[k]? = some (obK o)) : w.cell? ⟨k, 0, none⟩ = some (.int .i64 o.k) ∧ w.cell? ⟨k, 1, none⟩ = some (.int .i64 o.n) ∧ w.cell? ⟨k, 2, none⟩ = some (.int .i64 o.a) ∧ w.cell? ⟨k, 3, none⟩ = some (.int .u8 (o.m.toNat : Int)) ∧ w.cell? ⟨k, 4, none⟩ = some (.string o.s) := by
  unfold obK at h
  refine ⟨?_, ?_, ?_, ?_, ?_⟩ <;> (rw [cell_of_row _ _ _ _ _ _ h]; rfl)
theorem lall_len (s : FS) (F : Nat) : ∀ segs : List (Nat × Nat), (s.lall F segs).length ≤ 7 * segs.length
  | [] => by simp [FS.lall]
  | x :: tl => by
    have h1 := lall_len s F tl
    have h2 : (recN (s.blk F x.1) 7 1).length ≤ 7 := recN_len _ _ _
    have e : s.lall F (x :: tl) = recN (s.blk F x.1) 7 1 ++ s.lall F tl := by unfold FS.lall; rw [List.flatMap_cons]
    rw [e, List.length_append, List.length_cons]; omega
/-- The strings xs lie in the slice v, in a block that is not p. -/
def HavS (wx : World) (p : Nat) (v : Value) (xs : List (List UInt8)) : Prop :=
  ∃ gb ob cb, v = .slice (some ⟨gb, ob, none⟩) xs.length cb ∧ gb < wx.heap.size ∧ gb ≠ p ∧ ∀ j u, (strB xs)[j]? = some u → wx.cell? ⟨gb, ob + j, none⟩ = some (.string u)
theorem HavS.upd {wx w' : World} {p : Nat} {v : Value} {xs : List (List UInt8)} (h : HavS wx p v xs) (hu : Upd [p] wx w') : HavS w' p v xs := by
  obtain ⟨gb, ob, cb, h1, h2, h3, h4⟩ := h
  exact ⟨gb, ob, cb, h1, Nat.lt_of_lt_of_le h2 hu.size, h3, fun j u hj => by
    have := h4 j u hj
    rw [← this]
    exact World.cell?_of_block (hu.block gb h2 (by simpa using h3))⟩
/-- What stands between the rounds. -/
structure KeepS (w wr : World) (B g q p bb cb : Nat) (s : FS) (l : LS) (hv : Value) (j : Nat) : Prop where
  ow : ∃ v, OwL w wr B g q p bb cb v s l
  inv : LInv 1 B s l
  num : l.newest.2 ≤ 1 + j
  row : ∃ go c, hv = .slice (some ⟨go, 0, none⟩) (s.lall 1 l.segs).length c ∧ wr.ownsRow w.heap.size 9 1 hv (s.lall 1 l.segs).length (strV (s.lall 1 l.segs))
/-- What the script's call leaves. -/
structure AftS (w wx : World) (B g q p bb cb : Nat) (hv nx : Value) (j : Nat) : Prop where
  ex : ∃ (v : Value) (s : FS) (l : LS) (segs : List (Nat × Nat)) (a b : List (List UInt8)), OwL w wx B g q p bb cb v s l ∧ LBy 1 B s segs ∧ (s.dead = false → LInv 1 B s l ∧ l.segs = segs) ∧
    (∀ x ∈ segs, x.2 ≤ 1 + (j + 1)) ∧ HavS wx p hv a ∧ HavS wx p nx b ∧ a.length ≤ 100000 ∧ b.length ≤ 100000 ∧ (s.lall 1 segs = a ∨ s.lall 1 segs = b)
theorem arm_n (s : FS) (n k : Int) (m : UInt8) : (s.arm n k m).1.n = s.n := by
  unfold FS.arm
  (repeat' split) <;> rfl
theorem HavS.sub {w : World} {p base n c go : Nat} {L : List (List UInt8)} (h : w.ownsRow base 9 1 (.slice (some ⟨go, 0, none⟩) n c) n (strV L)) (hn : n = L.length) (hp : go ≠ p) (o m c2 : Nat) (ho : o + m ≤ n) : HavS w p (.slice (some ⟨go, o, none⟩) m c2) ((L.drop o).take m) := by
  have hl : ((L.drop o).take m).length = m := by rw [List.length_take, List.length_drop]; omega
  refine ⟨go, o, c2, by rw [hl], (h.lt go rfl).2, hp, fun j u hj => ?_⟩
  have hj1 : j < m := by
    have := (List.getElem?_eq_some_iff.1 hj).1
    unfold strB at this
    rw [List.length_map, hl] at this; exact this
  rw [h.cellAt (o + j) (by omega)]
  unfold strB at hj
  unfold strV
  rw [List.getElem?_map, List.getElem?_take_of_lt hj1, List.getElem?_drop] at hj
  rw [List.getElem?_map]
  cases hx : L[o + j]? with
  | none => rw [hx] at hj; cases hj
  | some r => rw [hx] at hj; cases hj; rfl
theorem HavS.of {w : World} {p base n c go : Nat} {L : List (List UInt8)} (h : w.ownsRow base 9 1 (.slice (some ⟨go, 0, none⟩) n c) n (strV L)) (hn : n = L.length) (hp : go ≠ p) : HavS w p (.slice (some ⟨go, 0, none⟩) n c) L := by
  have := HavS.sub h hn hp 0 n c (by omega)
  rwa [List.drop_zero, hn, List.take_length, ← hn] at this
theorem AftS.plain {w wx : World} {B g q p bb cb j : Nat} {v hv : Value} {s s2 : FS} {l1 : LS} (ow : OwL w wx B g q p bb cb v s2 l1) (h : LInv 1 B s l1) (hb : s2.b = s.b) (hn : s2.n = s.n) (num : l1.newest.2 ≤ 1 + j) (ha : HavS wx p hv (s.lall 1 l1.segs)) (hl : (s.lall 1 l1.segs).length ≤ 100000) : AftS w wx B g q p bb cb hv hv j := by
  obtain ⟨by2, e2⟩ := h.by_.same hb hn ow.lg.ok
  exact ⟨⟨v, s2, l1, l1.segs, _, _, ow, by2, fun hd => ⟨⟨by2, hd, h.live⟩, rfl⟩, fun x hx => by have := mem_le h.by_ x hx; omega, ha, ha, hl, hl, .inl e2⟩⟩
set_option maxHeartbeats 16000000 in
theorem walk (b : Int) (wb : (Lit.int .i64 b).wf = true) {v : Value} (l : List OpS) (w : World) (hl : ScriptS w v l) :
    Calls Tryz.prog 4 #[.int .i64 b, v] w fun e w' => e = .returned (.bool true) ∧ Below w.heap.size w w' := by
  obtain ⟨ao, cap, rfl, hlen, hcells⟩ := hl
  unfold maxLen at hlen
  have HCELLS := Box.mk hcells; clear hcells
  have LD := Box.mk (laidl_any b w)
  have OV := Box.mk (fun p bb cb s w hf hn => lover_in p bb cb b s w hf hn)
  have hbd := bN_bd b
  generalize bN b = B at LD hbd OV
  unfold LaidL at LD
  by_cases hB4 : B < 4
  · have e1 : (bfs (B + 1)).lformat 1 B = (bfs (B + 1), ⟨[], false⟩, 140) := by unfold FS.lformat; rw [if_pos hB4]
    rw [e1] at LD
    clear hB4 hbd e1 HCELLS OV
    go_enter Tryz.func4, Tryz.ntmps4
    go_wp2_with fail
    refine LD.out.mono ?_
    rintro e w1 ⟨q, p, bb, cb, p', kv, lv, rfl, hb, hlo, hq, hf, hok, hc⟩
    rcases hc with ⟨_, rfl⟩ | ⟨h, _⟩
    · have BE := Box.mk hb
      clear hb hlo hq hf hok LD
      go_upto_block 0 with (fail)
      have BE1 := Box.mk (BE.out.alloc BE.out.size (.cells #[] 9))
      generalize w1.alloc (.cells #[] 9) = W0 at BE1 ⊢
      clear BE
      go_wp2_with fail
      go_loopw [6, 10, 11] (fun lv _ i wr => lv = .pointer none ∧ Below w.heap.size w wr) (fun _ _ _ _ => 0)
      case atStart => exact ⟨rfl, BE1.out⟩
      case round =>
        clear BE1
        obtain ⟨rfl, hb⟩ := hrel
        have BE := Box.mk hb
        clear hb
        go_wp2_with fail
        refine (lfixed_any _).mono ?_
        rintro e w2 ⟨rfl, hb⟩
        have B2 := Box.mk (BE.out.trans (hb.mono BE.out.size))
        clear hb
        go_wp2_with fail
        go_ret
        exact ⟨rfl, B2.out⟩
    · cases h
  · obtain ⟨s1, e1, st1, i1, a1, r1⟩ := lformat_inv (B := B) (by omega) hbd.2
    rw [e1] at LD
    have IST := Box.mk (And.intro i1 a1)
    have HB12 := Box.mk hbd
    have HB4 := Box.mk (show 4 ≤ B by omega)
    clear e1 i1 st1 a1 r1 hB4 hbd
    go_enter Tryz.func4, Tryz.ntmps4
    go_wp2_with fail
    refine LD.out.mono ?_
    rintro e w1 ⟨q, p, bb, cb, p', kv, lv, rfl, hb, hlo, hq, hf, hok, hc⟩
    rcases hc with ⟨h, _⟩ | ⟨_, g, v1, rfl, hl, hg, hv⟩
    · exact absurd rfl h
    have OW := Box.mk (show OwL w w1 B g q p bb cb v1 s1 ⟨[(0, 1)], false⟩ from ⟨hl, fun k hk => by
      rcases List.mem_cons.1 hk with rfl | hk
      · exact hg
      · exact hlo k hk, hv, hb⟩)
    clear hb hlo hq hf hok hl hg hv LD
    go_upto_block 0 with (fail)
    have KS0 := Box.mk (show KeepS w (w1.alloc (.cells #[] 9)) B g q p bb cb s1 ⟨[(0, 1)], false⟩ (.slice (some ⟨w1.heap.size, 0, none⟩) 0 0) 0 from
      ⟨⟨v1, OW.out.al _⟩, IST.out.1, by show 1 ≤ 1 + 0; omega, by
        rw [IST.out.2]
        exact ⟨_, _, rfl, World.ownsRow_lit (base := w.heap.size) (size := 1) (e := 9) w1 #[] 0 OW.out.be.size (by unfold maxLen; omega) rfl⟩⟩)
    clear IST OW
    generalize w1.alloc (.cells #[] 9) = W0 at KS0 ⊢
    generalize w1.heap.size = h0 at KS0 ⊢
    go_wp2_with fail
    go_loopw [6, 10, 11] (fun lv hv i wr => ∃ (j : Nat) (s : FS) (l1 : LS) (g q : Nat), j ≤ l.length ∧ j ≤ 100 ∧ lv = .pointer (some ⟨g, 0, none⟩) ∧ i = .int .i64 j ∧ KeepS w wr B g q p bb cb s l1 hv j) (fun _ _ i _ => l.length - (intOf i).toNat)
    case atStart => exact ⟨0, s1, _, g, q, Nat.zero_le _, by omega, rfl, rfl, KS0.out⟩
    case round =>
      clear KS0
      obtain ⟨j, s, l1, g, q, hj, hj100, rfl, rfl, hr⟩ := hrel
      have KS := Box.mk hr
      clear hr
      obtain ⟨v2, ow2⟩ := KS.out.ow
      by_cases hlt : j < l.length
      · by_cases h100 : j < 100
        · have hltI : (j : Int) < (l.length : Int) := by omega
          have h100I : (j : Int) < 100 := by omega
          obtain ⟨o, ho⟩ : ∃ s, l[j]? = some s := ⟨_, List.getElem?_eq_getElem hlt⟩
          obtain ⟨a, rfl, HO⟩ := HCELLS.out j o ho
          have hox : OpAtS wr (a.add (j * 5)) o := HO.below ow2.be HO.lt
          obtain ⟨q0, q1, q2, q3, q4⟩ := hox.flat
          have OX := Box.mk HO.ok
          have HLT := Box.mk (And.intro hlt h100)
          obtain ⟨wk, hwk⟩ : ∃ wk, wk = wr.alloc (obK o) := ⟨_, rfl⟩
          have OB : Box (wk.heap[wr.heap.size]? = some (obK o)) := ⟨by rw [hwk]; exact heap_alloc_new _ _⟩
          have bk : Below wr.heap.size wr wk := by rw [hwk]; exact (Below.refl _ _).alloc (Nat.le_refl _) _
          have OWK := Box.mk (ow2.same bk)
          obtain ⟨go, c, rfl, hrow⟩ := KS.out.row
          have RK := Box.mk (own_below hrow bk)
          obtain ⟨z0, z1, z2, z3, z4⟩ := obK_cells OB.out
          have INV := Box.mk KS.out.inv; have NUM := Box.mk KS.out.num
          have HL84 : (s.lall 1 l1.segs).length ≤ 84 := by have h1 := lall_len s 1 l1.segs; have h2 := INV.out.by_.lok.few; have h3 := HB12.out.2; omega
          have KB : Box (wr.heap.size ∉ fp g v2 p bb cb) := ⟨fun h => by have := fp_lt ow2.lg _ h; omega⟩
          clear hox HO ow2 hrow bk hlt h100 ho
          unfold obK at hwk
          go_upto_region 9 with (fail)
          rw [← hwk]
          clear hwk q0 q1 q2 q3 q4 KS
          go_upto_block 2 with (fail)
          go_cut [10, 13] (fun hv nx wx => AftS w wx B g q p bb cb hv nx j)
          case first =>
            have APT := Box.mk (OWK.out.lg.apart RK.out)
            have GP : Box (go ≠ p) := ⟨fun e => APT.out go rfl (by rw [e]; unfold fp; simp)⟩
            have HK : Box (∀ w', Upd (fp g v2 p bb cb) wk w' → w'.ownsRow w.heap.size 9 1 (.slice (some ⟨go, 0, none⟩) (s.lall 1 l1.segs).length c) (s.lall 1 l1.segs).length (strV (s.lall 1 l1.segs)) ∧ w'.heap[wr.heap.size]? = some (obK o)) := ⟨fun w' hu => ⟨own_keep RK.out fun k hk hl => hu.block k hl (APT.out k hk), (hu.block _ (Array.getElem?_eq_some_iff.1 OB.out).1 KB.out).trans OB.out⟩⟩
            have HL5 : Box ((s.lall 1 l1.segs).length ≤ 84) := ⟨HL84⟩
            have FS5 : Box (∀ w' s', Fl 89 w' p bb cb s' → s'.Ok → s'.n.length = s.n.length → Upd [p] wk w' → OwL w w' B g q p bb cb v2 s' l1) := ⟨fun w' s' hf ho hn hu => OWK.out.step (OWK.out.lg.flash hf ho hn (hu.mono (by simp))) (fun j hj => .inl hj) (hu.mono (by unfold fp; simp))⟩
            clear HL84
            by_cases k0 : o.k = 0
            · have hk0 : (o.k == 0) = true := by rw [beq_iff_eq]; exact k0
              have AP := Box.mk (OWK.out.append INV.out o.s o.n (by have := OX.out.s; unfold maxLen at this; omega) (by have := NUM.out; have := HLT.out.2; omega))
              have KO := Box.mk (keep_append INV.out (by have := NUM.out; have := HLT.out.2; omega) o.s.data.toList o.n)
              generalize s.lappend 1 B l1 o.s.data.toList o.n = R at AP KO
              obtain ⟨s2, l2, e2⟩ := R
              dsimp only at AP
              obtain ⟨segs2, by2, al2, nb2, hc⟩ := KO.out.ex
              have BY2 := Box.mk by2; have AL2 := Box.mk al2; have HC := Box.mk hc
              have NB2 : Box (∀ x ∈ segs2, x.2 ≤ 1 + (j + 1)) := ⟨fun x hx => by have := nb2 x hx; have := NUM.out; omega⟩
              clear by2 al2 nb2 hc KO k0
              go_wp2_with fail
              refine AP.out.mono ?_
              rintro e w5 ⟨rfl, ⟨v5, ow5⟩, hu⟩
              have OW5 := Box.mk ow5
              have RK5 := Box.mk (HK.out w5 hu).1; have OB5 := Box.mk (HK.out w5 hu).2
              clear ow5 hu AP OWK RK OB z0 z1 z2 z3 z4 HK FS5 APT KB
              by_cases h02 : e2 = 0 ∨ e2 = 2
              · have PB : Box (e2 = 0 ∨ e2 = 2) := ⟨h02⟩
                obtain ⟨h0, h2⟩ | ⟨h0, h2⟩ : ((e2 == 0) = true ∧ True) ∨ ((e2 == 0) = false ∧ (e2 == 2) = true) := by
                  rcases h02 with h | h
                  · exact .inl ⟨by rw [h]; rfl, trivial⟩
                  · exact .inr ⟨by rw [h]; rfl, by rw [h]; rfl⟩
                all_goals
                  have Z0 := Box.mk h0
                  clear h02
                  go_upto_region 14 with (fail)
                  clear h2
                  refine MixV.wp_region_mix 6 [.new (.cells #[] 9 (0, 0)) (fun b => .slice (some ⟨b, 0, none⟩) 0 0), .flo, .cha, .flo, .flo, .new (.cells #[.string o.s] 9 (0, 0)) (fun b => .slice (some ⟨b, 0, none⟩) 1 1)] (by kernel_rfl) (by kernel_rfl) rfl ?_
                  simp only [List.take, List.zip, List.zipWith]
                  try go_frame
                  refine MixV.gm_zeroW (e := 9) rfl (fun _ => by kernel_rfl) (fun b1 hb1 hn1 => ?_)
                  try go_frame
                  refine MixV.gm_move (.tmp 10) (.inl rfl) (.slice (some ⟨go, 0, none⟩) (s.lall 1 l1.segs).length c) rfl ?_
                  try go_frame
                  obtain ⟨i0, hi0, hz0, hsz0, hby0⟩ := info_parts info_str
                  refine MixV.gm_appN (.tmp 67) (.tmp 68) 51 rfl w5.drew.heap.size 9 i0 (.string ⟨#[]⟩) 16 Tryz.underlying51 hi0 hz0 hsz0 hby0 rfl (by decide) (.slice (some ⟨b1, 0, none⟩) 0 0) 0 [] rfl ⟨go, 0, none⟩ (s.lall 1 l1.segs).length c (strV (s.lall 1 l1.segs)) rfl (by simp [strV]) (by intro u hu; unfold strV at hu; rw [List.mem_map] at hu; obtain ⟨r, _, rfl⟩ := hu; rfl) (by have := HL5.out; omega) (by intro k hk; cases hk; exact List.mem_cons_self) (fun w1 hw1 hF => ⟨MixV.own_zero hb1 hF.2, hw1.size, fun j u hj => ?_⟩) (fun v' => ?_)
                  case refine_1 =>
                    have hl : j < (s.lall 1 l1.segs).length := by
                      have := (List.getElem?_eq_some_iff.1 hj).1
                      unfold strV at this
                      rwa [List.length_map] at this
                    have h1 := RK5.out.cellAt j (by omega)
                    rw [hj] at h1
                    have ea : (⟨go, 0, none⟩ : Addr).add j = ⟨go, j, none⟩ := MixV.add_off0 go j
                    rw [ea, h1.symm]
                    exact World.cell?_of_block (hw1.block go (RK5.out.lt go rfl).2 (by simp))
                  try go_frame
                  refine MixV.gm_flo (.pointer (some ⟨wr.heap.size, 4, none⟩)) (fun w1 hw1 => ?_) ?_
                  case refine_1 => go_simp
                  try go_frame
                  refine MixV.gm_flo (.string o.s) (fun w1 hw1 => ?_) ?_
                  case refine_1 =>
                    have z4 := (obK_cells (hw1.at (by simp) OB5.out)).2.2.2.2
                    go_simp
                  try go_frame
                  refine MixV.gm_oneW (e := 9) (.tmp 71) rfl (.string o.s) rfl (fun _ => by kernel_rfl) (fun b2 hb2 hn2 => ?_)
                  try go_frame
                  refine MixV.gm_nil ?_
                  intro w9 hw9 hF9
                  simp only [List.drop]
                  try go_frame
                  obtain ⟨O8, R2⟩ := hF9
                  have hw9' : Gr w5 w9 := (Below.refl _ _).drew.trans hw9
                  have O9 := Box.mk O8
                  have B9 : Box (Below w5.heap.size w5 w9) := ⟨hw9'⟩
                  have S9 : Box (w5.drew.heap.size ≤ w9.heap.size) := ⟨hw9.size⟩
                  have RC : Box (∀ k u, [Value.string o.s][k]? = some u → w9.cell? ((⟨b2, 0, none⟩ : Addr).add k) = some u) := ⟨fun k u hk => by
                    match k, hk with
                    | 0, hk => simp at hk; subst hk; show w9.cell? ⟨b2, 0 + 0, none⟩ = _; rw [cell_of_row _ _ _ _ _ _ R2]; rfl
                    | k + 1, hk => simp at hk⟩
                  have HL9 : 0 + (s.lall 1 l1.segs).length ≤ 84 := by have := HL5.out; omega
                  clear hb1 hb2 hn1 hn2 hw9 hw9' O8 R2 OB5
                  go_wp2_with (at_builtin; refine wpList_append_own _ rfl (.tmp 69) (.tmp 72) 51 rfl w5.drew.heap.size 9 i0 (.string ⟨#[]⟩) 1 16 Tryz.underlying51 hi0 hz0 hsz0 hby0 rfl (by decide) v' (0 + (s.lall 1 l1.segs).length) _ rfl O9.out ⟨b2, 0, none⟩ 1 1 [.string o.s] rfl rfl RC.out (fun u hu => by simp at hu; subst hu; rfl) (by unfold maxLen; omega) (by omega) S9.out ?_; intro v9 w10 hown' hgrow hnil)
                  have B10 := Box.mk (B9.out.grown hgrow S9.out (fun k e => (World.ownsRow.lt O9.out k e).1))
                  have hown2 : w10.ownsRow w5.drew.heap.size 9 1 v9 (s.lall 1 l1.segs ++ [o.s.data.toList]).length (strV (s.lall 1 l1.segs ++ [o.s.data.toList])) := by
                    have e1 : strV (s.lall 1 l1.segs ++ [o.s.data.toList]) = [] ++ strV (s.lall 1 l1.segs) ++ [.string o.s] := by
                      unfold strV
                      rw [List.map_append, List.nil_append]; rfl
                    have e2 : (s.lall 1 l1.segs ++ [o.s.data.toList]).length = 0 + (s.lall 1 l1.segs).length + 1 := by simp
                    rw [e1, e2]; exact hown'
                  obtain ⟨g9, c9, rfl⟩ := own_form hown2 (by simp)
                  have NW : Box (HavS w10 p (.slice (some ⟨g9, 0, none⟩) (s.lall 1 l1.segs ++ [o.s.data.toList]).length c9) (s.lall 1 l1.segs ++ [o.s.data.toList])) := ⟨HavS.of hown2 rfl (fun e => by
                    have h1 := (hown2.lt g9 rfl).1
                    have h2 := OW5.out.lg.f.lt
                    simp at h1; omega)⟩
                  have HV : Box (HavS w10 p (.slice (some ⟨go, 0, none⟩) (s.lall 1 l1.segs).length c) (s.lall 1 l1.segs)) := ⟨HavS.of (own_below RK5.out B10.out) rfl GP.out⟩
                  have OW10 := Box.mk (OW5.out.same B10.out)
                  have LN : Box ((s.lall 1 l1.segs).length ≤ 100000 ∧ (s.lall 1 l1.segs ++ [o.s.data.toList]).length ≤ 100000) := ⟨by rw [List.length_append, List.length_singleton]; have := HL5.out; omega⟩
                  have F1 : Box (e2 = 0 → s2.lall 1 segs2 = s.lall 1 l1.segs ++ [o.s.data.toList]) := ⟨fun h0 => by
                    rcases HC.out with ⟨_, _, h⟩ | ⟨h, _⟩ | ⟨h, _⟩
                    · exact h
                    · rw [h0] at h; cases h
                    · exact absurd h0 h⟩
                  have F2 : Box (s2.lall 1 segs2 = s.lall 1 l1.segs ∨ s2.lall 1 segs2 = s.lall 1 l1.segs ++ [o.s.data.toList]) := ⟨by
                    rcases HC.out with ⟨_, _, h⟩ | ⟨_, _, h⟩ | ⟨_, _, _, h⟩
                    · exact .inr h
                    · exact h
                    · exact .inl h⟩
                  go_meet
                  first
                  | exact ⟨⟨v5, s2, l2, segs2, _, _, OW10.out, BY2.out, AL2.out, NB2.out, NW.out, NW.out, LN.out.2, LN.out.2, .inl (F1.out (by have := Z0.out; rwa [beq_iff_eq] at this))⟩⟩
                  | exact ⟨⟨v5, s2, l2, segs2, _, _, OW10.out, BY2.out, AL2.out, NB2.out, HV.out, NW.out, LN.out.1, LN.out.2, F2.out⟩⟩
              · have h0 : (e2 == 0) = false := by rw [beq_eq_false_iff_ne]; exact fun h => h02 (.inl h)
                have h2 : (e2 == 2) = false := by rw [beq_eq_false_iff_ne]; exact fun h => h02 (.inr h)
                have H02 := Box.mk h02
                clear h02
                go_wp2_with fail
                go_meet
                refine ⟨⟨v5, s2, l2, segs2, _, _, OW5.out, BY2.out, AL2.out, NB2.out, HavS.of RK5.out rfl GP.out, HavS.of RK5.out rfl GP.out, by have := HL5.out; omega, by have := HL5.out; omega, .inl ?_⟩⟩
                rcases HC.out with ⟨h, _⟩ | ⟨h, _⟩ | ⟨_, _, _, h⟩
                · exact absurd (.inl h) H02.out
                · exact absurd (.inr h) H02.out
                · exact h
            · by_cases k12 : o.k = 1 ∨ o.k = 2
              · have hc12 : Box ((s.lall 1 l1.segs).length ≤ c ∧ c ≤ 9223372036854775807) := ⟨by
                  rcases (Go.Proofs.YtjednaendedpdaaGreat.Own.of RK.out).2 with ⟨h, _⟩ | ⟨g', c', cu, fr, h1, _, _, h4, h5, _⟩
                  · cases h
                  · cases h1; exact ⟨h4, by unfold maxLen at h5; omega⟩⟩
                obtain ⟨nw, hnw⟩ : ∃ nw : Bool, nw = (o.k == 2) := ⟨_, rfl⟩
                obtain ⟨i0, HI0⟩ : ∃ i0 : Nat, Box (i0 = if nw then l1.segs.length - 1 else 0) := ⟨_, ⟨rfl⟩⟩
                have DR := Box.mk (dropped_any OWK.out INV.out HB12.out.2 nw go _ c rfl (by have := HL5.out; omega) hc12.out.1 hc12.out.2 i0 HI0.out)
                have KO := Box.mk (keep_drop INV.out i0 (by
                  have := List.length_pos_iff.2 INV.out.by_.lok.ne
                  rw [HI0.out]; split
                  · right; omega
                  · left; rfl))
                generalize s.ldrop 1 B l1 i0 = R at DR KO
                obtain ⟨s2, l2, e2⟩ := R
                dsimp only at DR
                obtain ⟨segs2, by2, al2, nb2, hc⟩ := KO.out.ex
                have BY2 := Box.mk by2; have AL2 := Box.mk al2; have HC := Box.mk hc
                have NB2 : Box (∀ x ∈ segs2, x.2 ≤ 1 + (j + 1)) := ⟨fun x hx => by have := nb2 x hx; have := NUM.out; omega⟩
                clear by2 al2 nb2 hc KO k0 hc12
                have hk0 : (o.k == 0) = false := by rw [beq_eq_false_iff_ne]; rcases k12 with h | h <;> rw [h] <;> decide
                obtain ⟨hk1, hk2, hnw2⟩ | ⟨hk1, hk2, hnw2⟩ : ((o.k == 1) = true ∧ (o.k == 2) = false ∧ nw = false) ∨ ((o.k == 1) = false ∧ (o.k == 2) = true ∧ nw = true) := by
                  rcases k12 with h | h
                  · exact .inl ⟨by rw [h]; rfl, by rw [h]; rfl, by rw [hnw, h]; rfl⟩
                  · exact .inr ⟨by rw [h]; rfl, by rw [h]; rfl, by rw [hnw, h]; rfl⟩
                all_goals
                  subst hnw2
                  clear hnw k12 HI0
                  go_wp2_with fail
                  refine DR.out.mono ?_
                  rintro e w5 ⟨⟨v5, ow5⟩, hu, hres⟩
                  have OW5 := Box.mk ow5
                  have RK5 := Box.mk (HK.out w5 hu).1
                  clear ow5 hu DR OWK RK OB z0 z1 z2 z3 z4 HK FS5 APT KB
                  rcases hres with ⟨h140, rfl⟩ | ⟨hne, o1, m1, c2, rfl, hl2, hom⟩
                  · have hI : (e2 == 0) = false := by rw [h140]; rfl
                    have HE := Box.mk h140
                    clear h140
                    go_wp2_with fail
                    go_meet
                    refine ⟨⟨v5, s2, l2, segs2, _, _, OW5.out, BY2.out, AL2.out, NB2.out, HavS.of RK5.out rfl GP.out, HavS.of RK5.out rfl GP.out, by have := HL5.out; omega, by have := HL5.out; omega, .inl ?_⟩⟩
                    rcases HC.out with ⟨h, _⟩ | ⟨h, _⟩ | ⟨_, _, _, h⟩
                    · rw [HE.out] at h; cases h
                    · rw [HE.out] at h; cases h
                    · exact h
                  · have HM := Box.mk hom; have HL2 := Box.mk hl2
                    have hlen : Box ((((s.lall 1 l1.segs).drop o1).take m1).length ≤ 100000) := ⟨by rw [List.length_take, List.length_drop]; have := HL5.out; omega⟩
                    clear hne hl2 hom
                    by_cases h0 : e2 = 0
                    · have hI : (e2 == 0) = true := by rw [beq_iff_eq]; exact h0
                      have H0 := Box.mk h0
                      clear h0
                      go_wp2_with fail
                      go_meet
                      refine ⟨⟨v5, s2, l2, segs2, _, _, OW5.out, BY2.out, AL2.out, NB2.out, HavS.sub RK5.out rfl GP.out o1 m1 c2 HM.out, HavS.sub RK5.out rfl GP.out o1 m1 c2 HM.out, hlen.out, hlen.out, .inl ?_⟩⟩
                      rcases HC.out with ⟨_, _, h⟩ | ⟨h, _⟩ | ⟨h, _⟩
                      · rw [h, HL2.out]
                      · rw [H0.out] at h; cases h
                      · exact absurd H0.out h
                    · have hI : (e2 == 0) = false := by rw [beq_eq_false_iff_ne]; exact h0
                      have H0 := Box.mk h0
                      clear h0
                      go_wp2_with fail
                      go_meet
                      refine ⟨⟨v5, s2, l2, segs2, _, _, OW5.out, BY2.out, AL2.out, NB2.out, HavS.of RK5.out rfl GP.out, HavS.sub RK5.out rfl GP.out o1 m1 c2 HM.out, by have := HL5.out; omega, hlen.out, ?_⟩⟩
                      rcases HC.out with ⟨h, _⟩ | ⟨h, _, h1⟩ | ⟨_, _, _, h⟩
                      · exact absurd h H0.out
                      · rcases h1 with h1 | h1
                        · exact .inl h1
                        · exact .inr (by rw [h1, HL2.out])
                      · exact .inl h
              · have hk0 : (o.k == 0) = false := by rw [beq_eq_false_iff_ne]; exact k0
                have hk1 : (o.k == 1) = false := by rw [beq_eq_false_iff_ne]; exact fun h => k12 (.inl h)
                have hk2 : (o.k == 2) = false := by rw [beq_eq_false_iff_ne]; exact fun h => k12 (.inr h)
                clear k0 k12
                by_cases k3 : o.k = 3
                · have hk3 : (o.k == 3) = true := by rw [beq_iff_eq]; exact k3
                  have AR := Box.mk (arm_any p bb cb s o.n o.a o.m wk OWK.out.lg.f OX.out.a)
                  clear k3
                  go_wp2_with fail
                  refine AR.out.mono ?_
                  rintro e w5 ⟨rfl, hf, hu⟩
                  have OW5 := Box.mk (FS5.out w5 _ hf (FS.arm_ok OWK.out.lg.ok _ _ _ OX.out.n.2 OX.out.a.2) (congrArg List.length (arm_n s o.n o.a o.m)) hu)
                  have RK5 := Box.mk (HK.out w5 (hu.mono (by unfold fp; simp))).1
                  clear hf hu AR
                  go_wp2_with fail
                  go_meet
                  exact AftS.plain OW5.out INV.out (FS.arm_b _ _ _ _) (arm_n _ _ _ _) NUM.out (HavS.of RK5.out rfl GP.out) (by have := HL5.out; omega)
                · have hk3 : (o.k == 3) = false := by rw [beq_eq_false_iff_ne]; exact k3
                  clear k3
                  by_cases k4 : o.k = 4
                  · have hk4 : (o.k == 4) = true := by rw [beq_iff_eq]; exact k4
                    have CR := Box.mk (crash_any p bb cb s wk OWK.out.lg.f)
                    have hal := INV.out.alive
                    rw [hal] at CR
                    have SOK : Box (s.off.Ok) := ⟨⟨by simp [FS.off], OWK.out.lg.ok.keep, OWK.out.lg.ok.len, OWK.out.lg.ok.few⟩⟩
                    clear k4 hal
                    go_wp2_with fail
                    refine CR.out.mono ?_
                    rintro e w5 ⟨rfl, hf, hu⟩
                    have OW5 := Box.mk (FS5.out w5 s.off hf SOK.out rfl hu)
                    have RK5 := Box.mk (HK.out w5 (hu.mono (by unfold fp; simp))).1
                    clear hf hu CR
                    go_wp2_with fail
                    go_meet
                    exact AftS.plain OW5.out INV.out rfl rfl NUM.out (HavS.of RK5.out rfl GP.out) (by have := HL5.out; omega)
                  · have hk4 : (o.k == 4) = false := by rw [beq_eq_false_iff_ne]; exact k4
                    clear k4
                    go_wp2_with fail
                    go_meet
                    exact AftS.plain OWK.out INV.out rfl rfl NUM.out (HavS.of RK.out rfl GP.out) (by have := HL5.out; omega)
          case rest =>
            obtain ⟨⟨v3, s2, l2, segs, xa, xb, ow, hby, hal, hnb, hha, hhb, la, lb, hor⟩⟩ := hcut
            have OW3 := Box.mk ow; have BY := Box.mk hby; have AL := Box.mk hal; have NB := Box.mk hnb
            obtain ⟨ga, oa, ca, rfl, ha1, ha2, ha3⟩ := hha
            obtain ⟨gb, ob, cb2, rfl, hb1, hb2, hb3⟩ := hhb
            have HA : Box (HavS wc p (.slice (some ⟨ga, oa, none⟩) xa.length ca) xa) := ⟨⟨ga, oa, ca, rfl, ha1, ha2, ha3⟩⟩; have HB : Box (HavS wc p (.slice (some ⟨gb, ob, none⟩) xb.length cb2) xb) := ⟨⟨gb, ob, cb2, rfl, hb1, hb2, hb3⟩⟩; have LAB := Box.mk (And.intro la lb); have OR := Box.mk hor
            clear ow hby hal hnb ha1 ha2 ha3 hb1 hb2 hb3 la lb hor OWK RK OB z0 z1 z2 z3 z4
            have DD := Box.mk (dead_any p bb cb s2 wc OW3.out.lg.f)
            go_wp2_with fail
            refine DD.out.mono ?_
            rintro e w1 ⟨rfl, rfl⟩
            go_upto_if 108 with (fail)
            go_cut [6] (fun lv wx => ∃ g2 q2 v4 s4 l4, lv = .pointer (some ⟨g2, 0, none⟩) ∧ OwL w wx B g2 q2 p bb cb v4 s4 l4 ∧ LInv 1 B s4 l4 ∧ (∀ x ∈ l4.segs, x.2 ≤ 1 + (j + 1)) ∧ HavS wx p (.slice (some ⟨ga, oa, none⟩) xa.length ca) xa ∧ HavS wx p (.slice (some ⟨gb, ob, none⟩) xb.length cb2) xb ∧ (s4.lall 1 l4.segs = xa ∨ s4.lall 1 l4.segs = xb))
            case first =>
              cases hd : s2.dead with
              | false =>
                obtain ⟨inv2, e2⟩ := AL.out hd
                have I2 := Box.mk inv2; have E2 := Box.mk e2
                clear inv2 e2
                go_wp2_with fail
                all_goals
                  go_meet
                  exact ⟨g, q, v3, s2, l2, rfl, OW3.out, I2.out, by rw [E2.out]; exact NB.out, HA.out, HB.out, by rw [E2.out]; exact OR.out⟩
              | true =>
                have RV := Box.mk (revive_any p bb cb s2 wc OW3.out.lg.f)
                obtain ⟨BY2, EQ2⟩ := BY.out.same (s' := s2.back) rfl rfl (show s2.back.Ok from ⟨by simp [FS.back], BY.out.ok.keep, BY.out.ok.len, BY.out.ok.few⟩)
                have B2 := Box.mk BY2; have E2 := Box.mk EQ2
                have OPN : Box (s2.back.lopen 1 B = .ok segs) := ⟨BY2.open_ HB4.out rfl (fun x hx => by have := NB.out x hx; have := HLT.out.2; omega)⟩
                clear BY2 EQ2 hd
                go_wp2_with fail
                refine RV.out.mono ?_
                rintro e w1 ⟨rfl, hf, hu⟩
                have u1 : Upd [p] wc w1 := hu
                have F1 := Box.mk hf
                have BE1 := Box.mk (Upd.below OW3.out.be u1 (fun i hi => by rw [List.mem_singleton] at hi; subst hi; exact OW3.out.lo _ (by simp)) OW3.out.be.size)
                have HA1 := Box.mk (HA.out.upd u1); have HB1 := Box.mk (HB.out.upd u1)
                clear hf hu u1 RV
                go_wp2_with fail
                refine (OV.out p bb cb s2.back _ F1.out (by have := B2.out.inn; exact this)).mono ?_
                rintro e w2 ⟨q2, rfl, hpa, hq2, hb⟩
                have F2 := Box.mk (F1.out.upd (Upd.of_below (S := []) hb) (by simp) (by simp) (by simp))
                have P2 := Box.mk hpa
                have BE2 := Box.mk (BE1.out.trans (hb.mono BE1.out.size))
                have Q2 := Box.mk (Nat.le_trans BE1.out.size hq2)
                have NQ : Box (q2 ∉ [p, bb, cb]) := ⟨by have := F1.out.lt; simp only [List.mem_cons, List.not_mem_nil, or_false, not_or]; omega⟩
                have HA2 := Box.mk (HA1.out.upd (Upd.of_below hb)); have HB2 := Box.mk (HB1.out.upd (Upd.of_below hb))
                clear hpa hq2 hb F1 BE1 HA1 HB1
                go_wp2_with fail
                refine (lopen_any q2 p bb cb 1 B s2.back _ F2.out B2.out.ok P2.out B2.out.inn NQ.out).mono ?_
                rintro e w3 ⟨hb, hm⟩
                rw [OPN.out] at hm
                obtain ⟨g2, v4, rfl, hlg, hg2, hv4⟩ := hm
                have OW4 := Box.mk (OW3.out.anew hlg (Nat.le_trans BE2.out.size hg2) Q2.out (fun k hk => Nat.le_trans BE2.out.size (hv4 k hk)) (BE2.out.trans (hb.mono BE2.out.size)))
                have HA3 := Box.mk (HA2.out.upd (Upd.of_below hb)); have HB3 := Box.mk (HB2.out.upd (Upd.of_below hb))
                clear hb hlg hg2 hv4 HA2 HB2 F2 P2 BE2
                go_wp2_with fail
                all_goals
                  go_meet
                  exact ⟨g2, q2, v4, s2.back, ⟨segs, false⟩, rfl, OW4.out, ⟨B2.out, rfl, rfl⟩, NB.out, HA3.out, HB3.out, by rw [E2.out]; exact OR.out⟩
            case rest =>
              obtain ⟨g2, q2, v4, s4, l4, rfl, ow4, inv4, nb4, ha4, hb4, or4⟩ := hcut
              obtain ⟨_, _, _, ea, ha1, _, ha3⟩ := ha4
              cases ea
              obtain ⟨_, _, _, eb, hb1, _, hb3⟩ := hb4
              cases eb
              have OW4 := Box.mk ow4; have I4 := Box.mk inv4; have N4 := Box.mk nb4; have OR4 := Box.mk or4
              have HA4 := Box.mk (And.intro ha1 ha3); have HB4 := Box.mk (And.intro hb1 hb3)
              have ALL := Box.mk (all_any ow4 inv4 HB12.out.2 (fun x _ => recN_len _ _ _))
              have HL4 : Box ((s4.lall 1 l4.segs).length ≤ 84) := ⟨by have h1 := lall_len s4 1 l4.segs; have h2 := inv4.by_.lok.few; have h3 := HB12.out.2; omega⟩
              clear ow4 inv4 nb4 or4 ha1 ha3 hb1 hb3 OW3 BY AL NB DD HA HB OR
              go_wp2_with fail
              refine ALL.out.mono ?_
              rintro e w3 ⟨⟨gs, c2, rfl, hrow2⟩, hb⟩
              have hlen : ∀ L : List (List UInt8), (strB L).length = L.length := fun L => by simp [strB]
              have hat : ∀ j u, (strB (s4.lall 1 l4.segs))[j]? = some u → w3.cell? ⟨gs, j, none⟩ = some (.string u) := fun j u hu => by
                have hj := (List.getElem?_eq_some_iff.1 hu).1
                rw [hlen] at hj
                rw [hrow2.cellAt j (by omega)]
                unfold strB at hu
                unfold strV
                rw [List.getElem?_map] at hu ⊢
                cases hx : (s4.lall 1 l4.segs)[j]? with
                | none => rw [hx] at hu; cases hu
                | some r => rw [hx] at hu; cases hu; rfl
              have SA := Box.mk (sameo_any (.slice (some ⟨gs, 0, none⟩) (s4.lall 1 l4.segs).length c2) (.slice (some ⟨ga, oa, none⟩) xa.length ca) (strB (s4.lall 1 l4.segs)) (strB xa) (by rw [hlen]; have := HL4.out; omega) (by rw [hlen]; exact LAB.out.1) w3 gs c2 ga oa ca (by rw [hlen]) (by rw [hlen]) hat (fun j u hj => (World.cell?_of_block (hb.block ga HA4.out.1)).trans (HA4.out.2 j u hj)))
              have SB := Box.mk (fun n => sameo_any (.slice (some ⟨gs, 0, none⟩) (s4.lall 1 l4.segs).length c2) (.slice (some ⟨gb, ob, none⟩) xb.length cb2) (strB (s4.lall 1 l4.segs)) (strB xb) (by rw [hlen]; have := HL4.out; omega) (by rw [hlen]; exact LAB.out.2) (w3.drewN n) gs c2 gb ob cb2 (by rw [hlen]) (by rw [hlen]) hat (fun j u hj => (World.cell?_of_block (hb.block gb HB4.out.1)).trans (HB4.out.2 j u hj)))
              have KS4 : Box (∀ n, KeepS w (w3.drewN n) B g2 q2 p bb cb s4 l4 (.slice (some ⟨gs, 0, none⟩) (s4.lall 1 l4.segs).length c2) (j + 1)) := ⟨fun n => ⟨⟨v4, (OW4.out.same hb).dn n⟩, I4.out, by
                  have h1 := I4.out.by_.lok.ne
                  have h2 : l4.newest ∈ l4.segs := by
                    unfold LS.newest
                    have h3 := List.length_pos_iff.2 h1
                    rw [List.getD_eq_getElem?_getD, List.getElem?_eq_getElem (by omega)]
                    exact List.getElem_mem _
                  have := N4.out _ h2; omega, ⟨gs, c2, rfl, hrow2.mono OW4.out.be.size⟩⟩⟩
              have OO : Box (strB (s4.lall 1 l4.segs) = strB xa ∨ strB (s4.lall 1 l4.segs) = strB xb) := ⟨OR4.out.imp (congrArg _) (congrArg _)⟩
              clear hlen hat hrow2 hb ALL OW4 OR4 HA4 HB4 N4
              by_cases hxa : strB (s4.lall 1 l4.segs) = strB xa
              · rw [decide_eq_true hxa] at SA
                clear hxa SB OO
                go_wp2_with fail
                refine SA.out.mono ?_
                rintro e w4 ⟨rfl, n4, rfl⟩
                go_wp2_with fail
                exact ⟨⟨j + 1, s4, l4, g2, q2, HLT.out.1, HLT.out.2, rfl, by go_num, KS4.out _⟩, by have := HLT.out.1; simp [intOf]; omega⟩
              · rw [decide_eq_false hxa] at SA
                have hxb := OO.out.resolve_left hxa
                rw [decide_eq_true hxb] at SB
                clear hxa hxb OO
                go_wp2_with fail
                refine SA.out.mono ?_
                rintro e w4 ⟨rfl, n4, rfl⟩
                go_wp2_with fail
                refine (SB.out n4).mono ?_
                rintro e w4 ⟨rfl, n5, rfl⟩
                go_wp2_with fail
                exact ⟨⟨j + 1, s4, l4, g2, q2, HLT.out.1, HLT.out.2, rfl, by go_num, KS4.out _⟩, by have := HLT.out.1; simp [intOf]; omega⟩
        · have h100I : ¬ (j : Int) < 100 := by omega
          have hltI : (j : Int) < (l.length : Int) := by omega
          have BE := Box.mk ow2.be
          clear hlt ow2
          go_wp2_with fail
          refine (lfixed_any _).mono ?_
          rintro e w2 ⟨rfl, hb⟩
          have B2 := Box.mk (BE.out.trans (hb.mono BE.out.size))
          clear hb
          go_wp2_with fail
          go_ret
          exact ⟨rfl, B2.out⟩
      · have hltI : ¬ (j : Int) < (l.length : Int) := by omega
        have BE := Box.mk ow2.be
        clear hlt ow2
        go_wp2_with fail
        refine (lfixed_any _).mono ?_
        rintro e w2 ⟨rfl, hb⟩
        have B2 := Box.mk (BE.out.trans (hb.mono BE.out.size))
        clear hb
        go_wp2_with fail
        go_ret
        exact ⟨rfl, B2.out⟩
theorem own : ownKnob Tryz.prog.godebug = none := by kernel_rfl
theorem laidOut : laidOutB Tryz.prog = true := by kernel_rfl
set_option maxRecDepth 100000 in
theorem lifted (os : Os) (started : os.Started) (H : Type) (enc : TypeId × Value → H) :
    ReturnsInHanded {} Tryz.checked os 4 .any (Rows.logsKeepsSpec.pre6 enc Tryz.prog Tryz.f4 Rows.logsKeepsRow.domain false) (Rows.logsKeepsSpec.post enc Tryz.prog Tryz.f4 false true false false) := by
  refine returnsInHanded_of_change (C := Tryz.checked) own started (by kernel_rfl) Tryz.func4
    (ChangeSpec.witness6 (enc := enc) (C := Tryz.checked) false ⟨#[], #[.int .i64 0, .slice none 0 0], []⟩ 8 (by kernel_rfl) (by kernel_rfl) (by kernel_rfl) (by kernel_rfl)) ?_
  intro W base args ds gs before hval0 hW hcnd _
  have hval : ∀ (j : Nat) t v, Tryz.f4.params[j]? = some t → args[j]? = some v → Value.okWide Tryz.prog W .any base t v := hval0
  have hW' := hW
  obtain ⟨p, q, hA0, hV, rfl, hfz, hnd⟩ := hW
  have hA : DataW.TrodAll enc Tryz.prog W 0 (fun _ => true) true Tryz.f4.params.toList args.toList ds p := hA0
  rw [Tryz.params4] at hA hval
  obtain ⟨v0, vs0, d0, ds0, p0, q0, hargs, rfl, rfl, h0, r0⟩ := trodAll_cons hA
  obtain ⟨v1, vs1, d1, ds1, p1, q1, rfl, rfl, rfl, h1, r1⟩ := trodAll_cons r0
  obtain ⟨rfl, rfl, rfl⟩ := trodAll_nil r1
  obtain rfl : args = #[v0, v1] := by cases args; simp_all
  obtain ⟨rfl, rfl⟩ := trodVars_none hV
  obtain ⟨s0, rfl, rfl, rfl, ws0⟩ := open_int Tryz.underlying3 (hval 0 3 v0 rfl rfl) h0
  obtain ⟨l1, hs1⟩ := open_ops (hval 1 48 v1 rfl rfl) h1
  clear hA0 hval0
  refine (walk s0 ws0 l1 W hs1).mono fun e W' ⟨he, bel⟩ => ?_
  subst he
  exact ⟨_, rfl, _, _, _, [], _, [], hW', trodAll_mk1 (shut_bool Tryz.underlying4 _), (trodAll_cons_mk (shut_int Tryz.underlying3 ws0) (trodAll_cons_mk (Below.trod laidOut (by kernel_rfl) (of_decide_eq_true (by kernel_rfl)) h1 bel (by obtain ⟨f, hf⟩ := h1; exact DataW.trod_lt _ _ _ _ hf)) trodAll_mk0)), rfl, bel.frame _, fun h => by cases h⟩

theorem proved : Rows.LogsKeepsSaid :=
  OpenClaim.holds_of_wide 4 Tryz.f4 rfl rfl rfl rfl rfl rfl rfl ⟨rfl, rfl, rfl, rfl, rfl⟩ rfl rfl rfl rfl rfl (by kernel_rfl) Tryz.func4 (by kernel_rfl)
    (of_decide_eq_true (by kernel_rfl)) (by unfold Func.isWrapper; first | (rw [if_pos (by decide +kernel)]; kernel_rfl) | (rw [if_neg (by decide +kernel)]; exact ⟨rfl, rfl⟩))
    (fun os started H enc _ => lifted os started H enc)
#print axioms proved
end Go.Proofs.YtjednaendedpdaaGreat.logsKeeps
