/- The logs' laws: the fixed calls. Arguments that are slices of strings. The logs' laws: what a call of a script does to the numbers. Arguments that are scripts, of other calls: which, a number, how a step is torn, bytes. -/
import Derived.Test.YtjednaendedpdaaM11
import Derived.Test.YtjednaendedpdaaM19
import Derived.Test.YtjednaendedpdaaM09
import Derived.SliceStrings
namespace Go.Proofs.Ytjednaendedpdaa
set_option maxRecDepth 100000
set_option linter.unusedVariables false
open Go Go.RowKit

theorem OwL.al {w wr : World} {B g q p bb cb : Nat} {v : Value} {s : FS} {l : LS} (h : OwL w wr B g q p bb cb v s l) (X : Obj) : OwL w (wr.alloc X) B g q p bb cb v s l := h.same ((Below.refl _ _).alloc (Nat.le_refl _) X)
theorem OwL.dn {w wr : World} {B g q p bb cb : Nat} {v : Value} {s : FS} {l : LS} (h : OwL w wr B g q p bb cb v s l) (n : Nat) : OwL w (wr.drewN n) B g q p bb cb v s l := h.same (belD (Below.refl _ _) n)
def z400 : List UInt8 := List.replicate 400 0
def z401 : List UInt8 := List.replicate 401 0
theorem fix_plain : ∃ s1, (bfs 5).lformat 1 4 = (s1, ⟨[(0, 1)], false⟩, 0) ∧ LInv 1 4 s1 ⟨[(0, 1)], false⟩ ∧ s1.lroom 1 ⟨[(0, 1)], false⟩ = 7 ∧
    ∃ sa la, s1.lappend 1 4 ⟨[(0, 1)], false⟩ [] 0 = (sa, la, 0) ∧ LInv 1 4 sa la ∧ la.segs = [(0, 1)] ∧ sa.lroom 1 la = 6 ∧
    ∃ sb lb, sa.lappend 1 4 la z400 0 = (sb, lb, 0) ∧ LInv 1 4 sb lb ∧ lb.segs = [(0, 1), (1, 2)] ∧ sb.lroom 1 lb = 0 ∧
      sb.lappend 1 4 lb [120] 2 = (sb, lb, 142) ∧ sb.lappend 1 4 lb z401 0 = (sb, lb, 141) ∧ recN (sb.blk 1 0) 7 1 = [[]] ∧ recN (sb.blk 1 1) 7 1 = [z400] ∧
    ∃ sc lc, sb.ldrop 1 4 lb 0 = (sc, lc, 0) ∧ LInv 1 4 sc lc ∧ sc.ldrop 1 4 lc 0 = (sc, lc, 140) := by
  have hz4 : z400.length = 400 := by unfold z400; rw [List.length_replicate]
  have hz1 : z401.length = 401 := by unfold z401; rw [List.length_replicate]
  have p0 : pgs 0 = 1 := by decide
  have p1 : pgs 1 = 1 := by decide
  have p4 : pgs 400 = 7 := by decide
  obtain ⟨s1, e1, st1, i1, a1, r1⟩ := lformat_inv (B := 4) (by omega) (by omega)
  refine ⟨s1, e1, i1, r1, ?_⟩
  have A1 := (i1.append (by show 1 + 1 < _; omega) [] 0).goes (by omega) (by simp) (by rw [r1]; show ¬ (7 < pgs 0 ∧ _); rw [p0]; omega)
  generalize s1.lappend 1 4 ⟨[(0, 1)], false⟩ [] 0 = Ra at A1
  obtain ⟨sa, la, ea⟩ := Ra
  obtain ⟨x1, x2⟩ := A1
  obtain ⟨rfl, sta⟩ := x1 st1
  rcases x2 with ⟨_, ia, aa, ra, sga, _⟩ | ⟨h, _⟩
  case inr => cases h
  dsimp only at sta ia aa ra sga
  rw [r1] at ra sga
  rw [show pgs ([] : List UInt8).length = 1 from p0, if_neg (by omega)] at ra sga
  refine ⟨sa, la, rfl, ia, sga, ra, ?_⟩
  have hna : la.newest = (0, 1) := by unfold LS.newest; rw [sga]; rfl
  have A2 := (ia.append (by rw [hna]; omega) z400 0).goes (by omega) (by omega) (by rw [ra, sga]; simp)
  generalize sa.lappend 1 4 la z400 0 = Rb at A2
  obtain ⟨sb, lb, eb⟩ := Rb
  obtain ⟨x1, x2⟩ := A2
  obtain ⟨rfl, stb⟩ := x1 sta
  rcases x2 with ⟨_, ib, ab, rb, sgb, kb⟩ | ⟨h, _⟩
  case inr => cases h
  dsimp only at stb ib ab rb sgb kb
  rw [hz4, p4, ra] at rb sgb kb
  rw [if_pos (by omega)] at rb sgb
  have hnx : la.next 4 = (1, 2) := by unfold LS.next; rw [hna]; rfl
  rw [sga, hnx] at sgb
  have sgb' : lb.segs = [(0, 1), (1, 2)] := sgb
  have hnb : lb.newest = (1, 2) := by unfold LS.newest; rw [sgb']; rfl
  have hb0 : recN (sb.blk 1 0) 7 1 = [[]] := by
    have := (kb (by omega)).2 (0, 1) (by rw [sga]; simp)
    dsimp only at this
    rw [this]
    rw [sga, a1] at aa
    unfold FS.lall at aa; simpa using aa
  have hb1 : recN (sb.blk 1 1) 7 1 = [z400] := by
    rw [sgb', aa, a1] at ab
    unfold FS.lall at ab
    simp only [List.flatMap_cons, List.flatMap_nil, List.append_nil, hb0, List.nil_append] at ab
    exact List.append_cancel_left ab
  refine ⟨sb, lb, rfl, ib, sgb', rb, ?_, ?_, hb0, hb1, ?_⟩
  · exact (ib.append (by rw [hnb]; omega) [120] 2).full (by omega) (by simp) (by rw [rb]; show 0 < pgs 1; rw [p1]; omega) (by rw [sgb']; simp)
  · exact (ib.append (by rw [hnb]; omega) z401 0).long (by omega) (by omega)
  · obtain ⟨d1, d2⟩ := ib.drop 0 (.inl rfl) (by rw [sgb']; simp) _ rfl
    generalize sb.ldrop 1 4 lb 0 = Rc at d1 d2
    obtain ⟨sc, lc, ec⟩ := Rc
    obtain ⟨rfl, stc⟩ := d1 stb
    rcases d2 with ⟨_, sgc, ic, _⟩ | ⟨h, _⟩
    case inr => cases h
    dsimp only at sgc ic
    refine ⟨sc, lc, rfl, ic, ?_⟩
    unfold FS.ldrop
    rw [if_pos (by rw [sgc, sgb']; rfl)]
set_option maxHeartbeats 4000000 in
theorem lfixed_any (w : World) : Calls Try.prog 6 #[] w fun e w' => e = .returned (.bool true) ∧ Below w.heap.size w w' := by
  obtain ⟨s1, e1, i1, r1, sa, la, ea, ia, ga, ra, sb, lb, eb, ib, gb, rb, e3, e4, n0, n1, sc, lc, ec, ic, ed⟩ := fix_plain
  have LD := Box.mk (laidl_any 4 w)
  rw [show bN 4 = 4 from rfl, e1] at LD
  unfold LaidL at LD
  have hmk0 := fun w => make_bytes 400 400 rfl (by omega) w
  have hmk1 := fun w => make_bytes 401 401 rfl (by omega) w
  go_enter Try.func6, Try.ntmps6
  go_wp2_with fail
  refine LD.out.mono ?_
  rintro e w1 ⟨q, p, bb, cb, p', kv, lv, rfl, hb, hlo, hq, hf, hok, hc⟩
  rcases hc with ⟨h, _⟩ | ⟨_, g, v, rfl, hl, hg, hv⟩
  · exact absurd rfl h
  have OW := Box.mk (show OwL w w1 4 g q p bb cb v s1 ⟨[(0, 1)], false⟩ from ⟨hl, fun k hk => by
    rcases List.mem_cons.1 hk with rfl | hk
    · exact hg
    · exact hlo k hk, hv, hb⟩)
  clear hb hlo hq hf hok hl hg hv LD
  have I1 := Box.mk i1; have IA := Box.mk ia; have IB := Box.mk ib; have IC := Box.mk ic
  have HP := Box.mk (And.intro ga (And.intro ra (And.intro gb rb)))
  have SEG1 := Box.mk ((OW.out).segs i1 (by omega))
  have FREE1 := Box.mk (fun wr (h : OwL w wr 4 g q p bb cb v s1 ⟨[(0, 1)], false⟩) => h.free i1)
  have RM1 := Box.mk (fun wr (h : OwL w wr 4 g q p bb cb v s1 ⟨[(0, 1)], false⟩) => h.room i1)
  rw [r1] at RM1
  have AP1 := Box.mk (fun wr (h : OwL w wr 4 g q p bb cb v s1 ⟨[(0, 1)], false⟩) => h.append i1 ⟨#[]⟩ 0 (by decide) (by show 1 + 1 < _; omega))
  rw [show (⟨#[]⟩ : ByteArray).data.toList = [] from rfl, ea] at AP1
  have HEQ := Box.mk (And.intro eb (And.intro e3 (And.intro e4 (And.intro n0 (And.intro n1 (And.intro ec ed))))))
  obtain ⟨Z4, hZ4⟩ : ∃ Z : ByteArray, Z = ⟨z400.toArray⟩ := ⟨_, rfl⟩
  obtain ⟨Z1, hZ1⟩ : ∃ Z : ByteArray, Z = ⟨z401.toArray⟩ := ⟨_, rfl⟩
  have CV4 := Box.mk (fun w => zeros_str 400 w)
  have CV1 := Box.mk (fun w => zeros_str 401 w)
  rw [show (⟨(List.replicate 400 0).toArray⟩ : ByteArray) = Z4 by rw [hZ4]; rfl] at CV4
  rw [show (⟨(List.replicate 401 0).toArray⟩ : ByteArray) = Z1 by rw [hZ1]; rfl] at CV1
  have HZ := Box.mk (And.intro hZ4 hZ1)
  have hmk4 := fun w => make_bytes 400 400 rfl (by omega) w
  have hmk5 := fun w => make_bytes 401 401 rfl (by omega) w
  clear e1 i1 r1 ea ia ga ra eb ib gb rb e3 e4 n0 n1 ec ic ed hZ4 hZ1 hmk0 hmk1
  go_wp2_with fail
  refine SEG1.out.mono ?_
  rintro e w2 ⟨gs, cap, rfl, hown, ho, hb⟩
  have OW2 := Box.mk ho; have R2 := Box.mk hown
  clear ho hb hown SEG1 OW
  have SM2 := Box.mk (same8_any gs cap w2.heap.size 1 [1] [1] (by decide) (by decide) (w2.alloc (.cells #[.int .i64 1] 3)) (fun j u hu => by
    match j, hu with
    | 0, hu => simp at hu; subst hu; exact cellA _ ((R2.out.cellAt 0 (by decide)).trans rfl)
    | j + 1, hu => simp at hu) (fun j u hu => by
    match j, hu with
    | 0, hu => simp at hu; subst hu; rw [cell_of_row _ _ _ _ _ _ (heap_alloc_new _ _)]; rfl
    | j + 1, hu => simp at hu))
  rw [decide_eq_true (rfl : ([1] : List Int) = [1])] at SM2
  go_wp2_with fail
  refine SM2.out.mono ?_
  rintro e w3 ⟨rfl, n3, rfl⟩
  have OW3 := Box.mk ((OW2.out.al (.cells #[.int .i64 1] 3)).dn n3)
  generalize (w2.alloc (.cells #[.int .i64 1] 3)).drewN n3 = w3 at OW3 ⊢
  clear OW2 R2 SM2
  go_wp2_with fail
  refine (FREE1.out _ OW3.out).mono ?_
  rintro e w4 ⟨rfl, ho, _⟩
  have OW4 := Box.mk ho
  clear ho OW3 FREE1
  go_wp2_with fail
  refine (RM1.out _ OW4.out).mono ?_
  rintro e w5 ⟨rfl, ho, _⟩
  have OW5 := Box.mk ho
  clear ho OW4 RM1
  go_wp2_with fail
  refine (AP1.out _ OW5.out).mono ?_
  rintro e w6 ⟨rfl, ⟨v6, ho⟩, _⟩
  have OW6 := Box.mk ho
  have RM6 := Box.mk (ho.room IA.out)
  rw [HP.out.2.1] at RM6
  clear ho OW5 AP1
  go_wp2_with fail
  refine RM6.out.mono ?_
  rintro e w7 ⟨rfl, ho, _⟩
  have OW7 := Box.mk ho
  have hcv4 := CV4.out w7
  have hz4s : Z4.size ≤ 9223372036854775807 := by rw [HZ.out.1]; show z400.toArray.size ≤ _; rw [List.size_toArray]; unfold z400; rw [List.length_replicate]; omega
  have AP7 := Box.mk ((OW7.out.al (.cells (Array.replicate 400 (.int .u8 0)) 5)).append IA.out Z4 0 hz4s (by
    have : la.newest = (0, 1) := by unfold LS.newest; rw [HP.out.1]; rfl
    rw [this]; omega))
  rw [show Z4.data.toList = z400 by rw [HZ.out.1], HEQ.out.1] at AP7
  clear ho OW6 RM6 hz4s
  go_wp2_with fail
  refine AP7.out.mono ?_
  rintro e w8 ⟨rfl, ⟨v8, ho⟩, _⟩
  have OW8 := Box.mk ho
  have SG8 := Box.mk (ho.segs IB.out (by omega))
  rw [HP.out.2.2.1] at SG8
  have FR8 := Box.mk (fun wr (h : OwL w wr 4 g q p bb cb v8 sb lb) => h.free IB.out)
  have RM8 := Box.mk (fun wr (h : OwL w wr 4 g q p bb cb v8 sb lb) => h.room IB.out)
  rw [HP.out.2.2.1] at FR8
  rw [HP.out.2.2.2] at RM8
  have hnb : lb.newest.2 + 1 < 281474976710656 := by
    have : lb.newest = (1, 2) := by unfold LS.newest; rw [HP.out.2.2.1]; rfl
    rw [this]; omega
  have AP8 := Box.mk (fun wr (h : OwL w wr 4 g q p bb cb v8 sb lb) => h.append IB.out ⟨#[120]⟩ 2 (by decide) hnb)
  rw [show (⟨#[120]⟩ : ByteArray).data.toList = [120] from rfl, HEQ.out.2.1] at AP8
  have hz1s : Z1.size ≤ 9223372036854775807 := by rw [HZ.out.2]; show z401.toArray.size ≤ _; rw [List.size_toArray]; unfold z401; rw [List.length_replicate]; omega
  have AP9 := Box.mk (fun v8 wr (h : OwL w wr 4 g q p bb cb v8 sb lb) => h.append IB.out Z1 0 hz1s hnb)
  rw [show Z1.data.toList = z401 by rw [HZ.out.2], HEQ.out.2.2.1] at AP9
  have RC1 := Box.mk (fun v8 wr (h : OwL w wr 4 g q p bb cb v8 sb lb) => h.records IB.out (0, 1) (by rw [HP.out.2.2.1]; simp))
  have RC2 := Box.mk (fun v8 wr (h : OwL w wr 4 g q p bb cb v8 sb lb) => h.records IB.out (1, 2) (by rw [HP.out.2.2.1]; simp))
  dsimp only at RC1 RC2
  rw [HEQ.out.2.2.2.1] at RC1
  rw [HEQ.out.2.2.2.2.1] at RC2
  have DR8 := Box.mk (fun v8 wr (h : OwL w wr 4 g q p bb cb v8 sb lb) => h.oldest IB.out)
  rw [HEQ.out.2.2.2.2.2.1] at DR8
  clear ho OW7 AP7 hnb hz1s hcv4
  go_wp2_with fail
  refine SG8.out.mono ?_
  rintro e w9 ⟨gs, cap, rfl, hown, ho, hb⟩
  have OW9 := Box.mk ho; have R9 := Box.mk hown
  clear ho hb hown SG8 OW8
  have SM9 := Box.mk (same8_any gs cap w9.heap.size 2 [1, 2] [1, 2] (by decide) (by decide) (w9.alloc (.cells #[.int .i64 1, .int .i64 2] 3)) (fun j u hu => by
    match j, hu with
    | 0, hu => simp at hu; subst hu; exact cellA _ ((R9.out.cellAt 0 (by decide)).trans rfl)
    | 1, hu => simp at hu; subst hu; exact cellA _ ((R9.out.cellAt 1 (by decide)).trans rfl)
    | j + 2, hu => simp at hu) (fun j u hu => by
    match j, hu with
    | 0, hu => simp at hu; subst hu; rw [cell_of_row _ _ _ _ _ _ (heap_alloc_new _ _)]; rfl
    | 1, hu => simp at hu; subst hu; rw [cell_of_row _ _ _ _ _ _ (heap_alloc_new _ _)]; rfl
    | j + 2, hu => simp at hu))
  rw [decide_eq_true (rfl : ([1, 2] : List Int) = [1, 2])] at SM9
  go_wp2_with fail
  refine SM9.out.mono ?_
  rintro e w10 ⟨rfl, n10, rfl⟩
  have OW10 := Box.mk ((OW9.out.al (.cells #[.int .i64 1, .int .i64 2] 3)).dn n10)
  generalize (w9.alloc (.cells #[.int .i64 1, .int .i64 2] 3)).drewN n10 = w10 at OW10 ⊢
  clear OW9 R9 SM9
  go_wp2_with fail
  refine (FR8.out _ OW10.out).mono ?_
  rintro e w11 ⟨rfl, ho, _⟩
  have OW11 := Box.mk ho
  clear ho OW10 FR8
  go_wp2_with fail
  refine (RM8.out _ OW11.out).mono ?_
  rintro e w12 ⟨rfl, ho, _⟩
  have OW12 := Box.mk ho
  clear ho OW11 RM8
  go_wp2_with fail
  refine (AP8.out _ OW12.out).mono ?_
  rintro e w13 ⟨rfl, ⟨v13, ho⟩, _⟩
  have OW13 := Box.mk ho
  have hcv5 := CV1.out w13
  clear ho OW12 AP8
  go_wp2_with fail
  refine (AP9.out _ _ (OW13.out.al (.cells (Array.replicate 401 (.int .u8 0)) 5))).mono ?_
  rintro e w14 ⟨rfl, ⟨v14, ho⟩, _⟩
  have OW14 := Box.mk ho
  clear ho OW13 AP9 hcv5
  go_wp2_with fail
  refine (RC1.out _ _ OW14.out).mono ?_
  rintro e w15 ⟨⟨x1, rfl, hx1⟩, ho, _⟩
  have OW15 := Box.mk ho
  obtain ⟨g1, c1, rfl⟩ := own_formI hx1 (by decide)
  have X15 := Box.mk hx1
  clear ho OW14 RC1 hx1
  go_wp2_with fail
  refine (RC2.out _ _ OW15.out).mono ?_
  rintro e w16 ⟨⟨x2, rfl, hx2⟩, ho, hb16⟩
  have OW16 := Box.mk ho
  obtain ⟨g2, c2, rfl⟩ := own_formI hx2 (by decide)
  have X16 := Box.mk (own_below X15.out hb16); have Y16 := Box.mk hx2
  clear ho OW15 RC2 hx2 hb16 X15
  go_wp2_with fail
  refine (DR8.out _ _ OW16.out).mono ?_
  rintro e w17 ⟨rfl, ⟨v17, ho⟩, hu⟩
  have X17 := Box.mk (own_keep X16.out (w' := w17) fun k hk hl => hu.block k hl (OW16.out.lg.apart X16.out k hk)); have Y17 := Box.mk (own_keep Y16.out (w' := w17) fun k hk hl => hu.block k hl (OW16.out.lg.apart Y16.out k hk))
  have OW17 := Box.mk ho
  have DR := Box.mk (ho.oldest IC.out)
  rw [HEQ.out.2.2.2.2.2.2] at DR
  clear ho hu OW16 X16 Y16 DR8
  go_wp2_with fail
  refine DR.out.mono ?_
  rintro e w18 ⟨rfl, ⟨v18, ho⟩, hu⟩
  have X18 := Box.mk (own_keep X17.out (w' := w18) fun k hk hl => hu.block k hl (OW17.out.lg.apart X17.out k hk)); have Y18 := Box.mk (own_keep Y17.out (w' := w18) fun k hk hl => hu.block k hl (OW17.out.lg.apart Y17.out k hk))
  have BE := Box.mk ho.be
  clear ho hu OW17 X17 Y17 DR
  go_wp2_with fail
  refine (same_any _ _ [⟨#[]⟩] [⟨#[]⟩] (by decide) (by decide) _ g1 c1 w18.heap.size 1 rfl rfl (fun j u hu => by
    match j, hu with
    | 0, hu => simp at hu; subst hu; exact cellA _ ((X18.out.cellAt 0 (by decide)).trans rfl)
    | j + 1, hu => simp at hu) (fun j u hu => by
    match j, hu with
    | 0, hu => simp at hu; subst hu; rw [cell_of_row _ _ _ _ _ _ (heap_alloc_new _ _)]; rfl
    | j + 1, hu => simp at hu)).mono ?_
  rw [decide_eq_true (rfl : ([⟨#[]⟩] : List ByteArray) = [⟨#[]⟩])]
  rintro e w19 ⟨rfl, n19, rfl⟩
  have b19 : Below w18.heap.size w18 ((w18.alloc (.cells #[.string ⟨#[]⟩] 9)).drewN n19) := belD ((Below.refl _ _).alloc (Nat.le_refl _) _) n19
  have Y19 := own_below Y18.out b19
  have cz : ((w18.alloc (.cells #[.string ⟨#[]⟩] 9)).drewN n19).cell? ⟨g2, 0, none⟩ = some (.string Z4) := by
    rw [Y19.cellAt 0 (by decide), HZ.out.1]; rfl
  have B19 := Box.mk (BE.out.trans (b19.mono BE.out.size))
  have hzs : Z4.size = 400 := by rw [HZ.out.1]; show z400.toArray.size = _; rw [List.size_toArray]; unfold z400; rw [List.length_replicate]
  generalize (w18.alloc (.cells #[.string ⟨#[]⟩] 9)).drewN n19 = w19 at cz B19 ⊢
  clear b19 Y19 X18 Y18 BE
  have PG1 := Box.mk (fun w => pages_any 61 (by omega) w)
  rw [show pgs 61 = 2 from by decide] at PG1
  go_wp2_with fail
  refine (PG1.out _).mono ?_
  rintro e w20 ⟨rfl, rfl⟩
  go_wp2_with fail
  refine (pages_neg _).mono ?_
  rintro e w21 ⟨rfl, rfl⟩
  go_wp2_with fail
  go_ret
  exact ⟨rfl, B19.out⟩
end Go.Proofs.Ytjednaendedpdaa
namespace Go.Proofs.Ytjednaendedpdaa
set_option maxRecDepth 100000
open Go Go.RowKit Go.ChangeShapes Go.WideShapes
set_option linter.unusedVariables false

/-- The slice v holds the strings of l. -/
def Strs (w : World) (v : Value) (l : List ByteArray) : Prop :=
  ∃ (ao : Option Addr) (cap : Nat), v = .slice ao l.length cap ∧ l.length ≤ maxLen ∧ ∀ i s, l[i]? = some s → ∃ a, ao = some a ∧ a.block < w.heap.size ∧ w.cell? (a.add i) = some (.string s) ∧ s.size ≤ maxLen
theorem Strs.below {w w' : World} {v : Value} {l : List ByteArray} (h : Strs w v l) (hb : Below w.heap.size w w') : Strs w' v l := by
  obtain ⟨ao, cap, h1, h2, h3⟩ := h
  refine ⟨ao, cap, h1, h2, fun i s hi => ?_⟩
  obtain ⟨a, e, hl, hc, hs⟩ := h3 i s hi
  have hq : (a.add i).block = a.block := by unfold Addr.add; split <;> rfl
  exact ⟨a, e, Nat.lt_of_lt_of_le hl hb.size, (hb.cell (by rw [hq]; exact hl)).trans hc, hs⟩
theorem open_strs {H : Type} {enc : TypeId × Value → H} {P : Program} {w : World} {base : Nat} {spare : Nat → Bool} {held : Bool} {r : Reach} {b0 : Nat} {t e : TypeId} {v : Value} {d : DataW H} {p : List MemPlace}
    (ht : P.underlying t = some (.slice e)) (he : P.underlying e = some .string) (hc : P.cellsOf e = 1) (hv : Value.okWide P w r b0 t v) (h : DataW.Trod enc P w base spare held t v d p) : ∃ l, Strs w v l := by
  obtain ⟨a0, len, cap, rfl⟩ := okWide_slice ht hv
  obtain ⟨fuel, hf⟩ := h
  rcases open_strings ht he hc hf with ⟨hcs, _⟩ | ⟨a, len', cap', ss, hcs, _, hl, hm, hz, _, hcell, hsz⟩
  · simp [Value.cells] at hcs
    obtain ⟨rfl, rfl, rfl⟩ := hcs
    exact ⟨[], none, 0, rfl, Nat.zero_le _, fun i s h => by simp at h⟩
  · simp [Value.cells] at hcs
    obtain ⟨rfl, rfl, rfl⟩ := hcs
    have hle : len ≤ ss.length := by rw [hz]; split <;> omega
    refine ⟨ss.take len, some a, cap, by rw [List.length_take, Nat.min_eq_left hle], by rw [List.length_take]; omega, fun i s hi => ?_⟩
    have hi' : i < (ss.take len).length := (List.getElem?_eq_some_iff.1 hi).1
    rw [List.length_take] at hi'
    rw [List.getElem?_take] at hi
    rw [if_pos (by omega)] at hi
    have hc := hcell i (by omega)
    rw [List.getD_eq_getElem?_getD, hi] at hc
    have hq : (a.add i).block = a.block := by unfold Addr.add; split <;> rfl
    refine ⟨a, rfl, ?_, hc, hsz s (List.mem_of_getElem? hi)⟩
    rw [← hq]; exact World.block_lt_of_cell? _ _ hc
end Go.Proofs.Ytjednaendedpdaa
namespace Go.Proofs.Ytjednaendedpdaa
set_option maxRecDepth 100000
set_option linter.unusedVariables false
open Go Go.RowKit

/-- The oldest segment's number. -/
def LS.first (l : LS) : Nat := (l.segs.getD 0 (0, 0)).2
theorem first_chain {l : LS} {B b0 n0 m : Nat} (h : l.segs = chainL B b0 n0 (m + 1)) : l.first = n0 := by
  unfold LS.first
  rw [h, List.getD_eq_getElem?_getD, chainL_at _ _ _ _ _ (by omega)]; rfl
theorem LInv.nums {F B : Nat} {s : FS} {l : LS} (h : LInv F B s l) : ∃ m, l.segs.length = m + 1 ∧ m + 1 ≤ B ∧ l.newest.2 = l.first + m ∧ 1 ≤ l.first ∧ ∀ i, i ≤ m → (segN l.segs)[i]? = some (.int .i64 ((l.first + i : Nat) : Int)) := by
  obtain ⟨b0, n0, m, h1, h2, h3, h4, h5⟩ := h.by_.ch
  obtain ⟨m, rfl⟩ : ∃ k, m = k + 1 := ⟨m - 1, by omega⟩
  have hf := first_chain h5
  refine ⟨m, by rw [h5, chainL_len], h4, by rw [newest_chain h5, hf], by omega, fun i hi => ?_⟩
  unfold segN
  rw [List.getElem?_map, h5, chainL_at _ _ _ _ _ (by omega), hf]; rfl
/-- A call of a script. -/
def nStep (B : Nat) (s : FS) (l : LS) (k : Int) (r : List UInt8) : FS × LS × Int :=
  if k = 0 then s.lappend 1 B l r 0 else if k = 1 then s.ldrop 1 B l 0 else if k = 2 then s.ldrop 1 B l (l.segs.length - 1) else (s, l, 0)
structure NumOut (B : Nat) (s : FS) (l : LS) (k : Int) (R : FS × LS × Int) : Prop where
  inv : LInv 1 B R.1 R.2.1
  st : R.1.Still
  num : R.2.1.newest.2 ≤ l.newest.2 + 1
  bad : R.2.2 ≠ 0 → R.2.1.segs = l.segs
  first : (k ≠ 1 ∨ R.2.2 ≠ 0) → R.2.1.first = l.first
  next : k = 1 → R.2.2 = 0 → R.2.1.first = l.first + 1
theorem NumOut.still {B : Nat} {s : FS} {l : LS} {k e : Int} (h : LInv 1 B s l) (st : s.Still) (he : k = 1 → e ≠ 0) : NumOut B s l k (s, l, e) :=
  ⟨h, st, by show l.newest.2 ≤ _; omega, fun _ => rfl, fun _ => rfl, fun a b => absurd b (he a)⟩
theorem num_step {B : Nat} {s : FS} {l : LS} (h : LInv 1 B s l) (st : s.Still) (hn : l.newest.2 + 1 < 281474976710656) (k : Int) (r : List UInt8) : NumOut B s l k (nStep B s l k r) := by
  have hne := h.by_.lok.ne
  have hl0 : 0 < l.segs.length := List.length_pos_iff.2 hne
  unfold nStep
  by_cases h0 : k = 0
  · rw [if_pos h0]
    have AO := h.append hn r 0
    by_cases hlong : 400 < r.length
    · rw [AO.long (Int.le_refl _) hlong]; exact .still h st (by omega)
    · by_cases hfull : s.lroom 1 l < pgs r.length ∧ ((B - l.segs.length : Nat) : Int) ≤ 0
      · rw [AO.full (Int.le_refl _) (by omega) hfull.1 hfull.2]; exact .still h st (by omega)
      · obtain ⟨g1, g2⟩ := AO.goes (Int.le_refl _) (by omega) hfull
        obtain ⟨e0, st2⟩ := g1 st
        rcases g2 with ⟨_, i2, _, _, gs, _⟩ | ⟨he, _⟩
        · refine ⟨i2, st2, ?_, fun h => absurd e0 h, fun _ => ?_, fun h => by omega⟩
          · unfold LS.newest
            rw [gs]
            split
            · rw [List.length_append, List.length_singleton, Nat.add_sub_cancel, List.getD_eq_getElem?_getD, List.getElem?_append_right (Nat.le_refl _), Nat.sub_self]
              show l.newest.2 + 1 ≤ l.newest.2 + 1
              omega
            · show l.newest.2 ≤ l.newest.2 + 1; omega
          · unfold LS.first
            rw [gs]
            split
            · rw [List.getD_eq_getElem?_getD, List.getD_eq_getElem?_getD, List.getElem?_append_left hl0]
            · rfl
        · rw [e0] at he; cases he
  · rw [if_neg h0]
    have hdrop : ∀ i, (i = 0 ∧ k = 1) ∨ (i + 1 = l.segs.length ∧ k = 2) → NumOut B s l k (s.ldrop 1 B l i) := by
      intro i hi
      by_cases h1 : l.segs.length = 1
      · rw [show s.ldrop 1 B l i = (s, l, 140) by unfold FS.ldrop; rw [if_pos h1]]; exact .still h st (by omega)
      · obtain ⟨d1, d2⟩ := h.drop i (by omega) h1 _ rfl
        obtain ⟨e0, st2⟩ := d1 st
        rcases d2 with ⟨_, gs, i2, _⟩ | ⟨he, _⟩
        · obtain ⟨b0, n0, m, h2, h3, h4, h5, h6⟩ := h.by_.ch
          have hlen : l.segs.length = m := by rw [h6, chainL_len]
          obtain ⟨m, rfl⟩ : ∃ k, m = k + 2 := ⟨m - 2, by omega⟩
          have hnew : l.newest.2 = n0 + (m + 1) := by rw [newest_chain h6]
          have hfir : l.first = n0 := first_chain h6
          rcases hi with ⟨rfl, hk⟩ | ⟨hi, hk⟩
          · rw [h6, chainL_tail _ _ _ _ (by omega)] at gs
            refine ⟨i2, st2, by rw [newest_chain gs, hnew]; show n0 + 1 + m ≤ _; omega, fun h => absurd e0 h, fun h => ?_, fun _ _ => by rw [first_chain gs, hfir]⟩
            rcases h with h | h
            · exact absurd hk h
            · exact absurd e0 h
          · obtain rfl : i = m + 1 := by omega
            rw [h6, chainL_init] at gs
            exact ⟨i2, st2, by rw [newest_chain gs, hnew]; show n0 + m ≤ _; omega, fun h => absurd e0 h, fun _ => by rw [first_chain gs, hfir], fun h => by omega⟩
        · rw [e0] at he; cases he
    by_cases h1 : k = 1
    · rw [if_pos h1]; exact hdrop 0 (.inl ⟨rfl, h1⟩)
    · rw [if_neg h1]
      by_cases h2 : k = 2
      · rw [if_pos h2]; exact hdrop _ (.inr ⟨by omega, h2⟩)
      · rw [if_neg h2]; exact .still h st (fun h => absurd h h1)
theorem fp_lt {w : World} {F B : Int} {g q p bb cb : Nat} {v : Value} {s : FS} {l : LS} (h : LgS w F B g q p bb cb v s l) (x : Nat) (hx : x ∈ fp g v p bb cb) : x < w.heap.size := by
  have h1 := h.f.lt; have h2 := h.lg.lt
  unfold fp at hx
  simp only [List.mem_cons, Option.mem_toList] at hx
  rcases hx with rfl | rfl | rfl | rfl | hx
  · exact h2
  · exact h1.1
  · exact h1.2.1
  · exact h1.2.2
  · exact (World.ownsRow.lt h.lg.own x hx).2
/-- A row of younger blocks outlasts a change of the log's. -/
theorem row_keeps {w w1 w2 : World} {F B : Int} {g q p bb cb : Nat} {v : Value} {s : FS} {l : LS} (h : LgS w F B g q p bb cb v s l) {base size n : Nat} {e : TypeId} {x : Value} {xs : List Value} (ho : w1.ownsRow base e size x n xs) (hb : w.heap.size ≤ base) (hu : Upd (fp g v p bb cb) w1 w2) : w2.ownsRow base e size x n xs :=
  own_keep ho fun k hk hl => hu.block k hl fun hm => by
    have h1 := fp_lt h k hm
    have h2 := (World.ownsRow.lt ho k hk).1
    omega
end Go.Proofs.Ytjednaendedpdaa
namespace Go.Proofs.Ytjednaendedpdaa
set_option maxRecDepth 100000
open Go Go.RowKit Go.ChangeShapes Go.WideShapes Go.Deep
set_option linter.unusedVariables false

/-- A call of a script. -/
structure OpS where
  k : Int
  n : Int
  a : Int
  m : UInt8
  s : ByteArray
structure OpS.Ok (o : OpS) : Prop where
  k : -9223372036854775808 ≤ o.k ∧ o.k ≤ 9223372036854775807
  a : -9223372036854775808 ≤ o.a ∧ o.a ≤ 9223372036854775807
  n : -9223372036854775808 ≤ o.n ∧ o.n ≤ 9223372036854775807
  s : o.s.size ≤ maxLen
/-- It lies at p. -/
structure OpAtS (w : World) (p : Addr) (o : OpS) : Prop where
  k : w.cell? p = some (.int .i64 o.k)
  n : w.cell? (p.add 1) = some (.int .i64 o.n)
  a : w.cell? (p.add 2) = some (.int .i64 o.a)
  m : w.cell? (p.add 3) = some (.int .u8 (o.m.toNat : Int))
  s : w.cell? (p.add 4) = some (.string o.s)
  ok : o.Ok
/-- The slice sl holds the calls of l. -/
def ScriptS (w : World) (sl : Value) (l : List OpS) : Prop :=
  ∃ (ao : Option Addr) (cap : Nat), sl = .slice ao l.length cap ∧ l.length ≤ maxLen ∧ ∀ i o, l[i]? = some o → ∃ a, ao = some a ∧ OpAtS w (a.add (i * 5)) o

theorem ScriptS.of_reads {H : Type} {enc : TypeId × Value → H} {P : Program} {w : World} {base : Nat} {spare : Nat → Bool} {held : Bool} {t e ti ts tb : TypeId} {v : Value} {n0 n1 n2 n3 n4 : Field}
    (ht : P.underlying t = some (.slice e)) (he : P.underlying e = some (.struct #[n0, n1, n2, n3, n4])) (hone : oneCellFields P #[n0, n1, n2, n3, n4] = true) (hC : P.cellsOf e = 5)
    (h0 : n0.type = ti) (h1 : n1.type = ti) (h2 : n2.type = ti) (h3 : n3.type = tb) (h4 : n4.type = ts)
    (hti : P.underlying ti = some (.int .i64)) (hts : P.underlying ts = some .string) (htb : P.underlying tb = some (.int .u8))
    (h : Reads enc P w base spare held t v) : ∃ l, ScriptS w v l := by
  rcases Reads.slice ht he hone hC h with rfl | ⟨a, len, cap, rfl, hb, hl, hm, hi⟩
  · exact ⟨[], none, 0, rfl, Nat.zero_le _, fun i o h => by simp at h⟩
  · have hex : ∀ i, i < len → ∃ o, OpAtS w (a.add (i * 5)) o := by
      intro i hil
      obtain ⟨c0, g0, r0⟩ := hi i hil 0 _ rfl
      obtain ⟨c1, g1, r1⟩ := hi i hil 1 _ rfl
      obtain ⟨c2, g2, r2⟩ := hi i hil 2 _ rfl
      obtain ⟨c3, g3, r3⟩ := hi i hil 3 _ rfl
      obtain ⟨c4, g4, r4⟩ := hi i hil 4 _ rfl
      have r0 := h0 ▸ r0; have r1 := h1 ▸ r1; have r2 := h2 ▸ r2; have r3 := h3 ▸ r3; have r4 := h4 ▸ r4
      obtain ⟨k, rfl, wk⟩ := r0.int hti
      obtain ⟨n, rfl, wn⟩ := r1.int hti
      obtain ⟨x, rfl, wx⟩ := r2.int hti
      obtain ⟨m, rfl, wm⟩ := r3.int htb
      obtain ⟨s, rfl, ws⟩ := r4.string hts
      have bm := bounds_u8 wm
      have em : m = ((UInt8.ofNat m.toNat).toNat : Int) := by rw [UInt8.toNat_ofNat']; omega
      have ha : ∀ j, (a.add (i * 5)).add j = a.add (i * 5 + j) := fun j => Go.Deep.add_add a _ _
      refine ⟨⟨k, n, x, UInt8.ofNat m.toNat, s⟩, ⟨by simpa using g0, by rw [ha]; simpa using g1, by rw [ha]; simpa using g2, by rw [ha, ← em]; simpa using g3, by rw [ha]; simpa using g4, ⟨bounds_i64 wk, bounds_i64 wx, bounds_i64 wn, ws⟩⟩⟩
    obtain ⟨l, hll, hP⟩ := exists_list (fun i o => OpAtS w (a.add (i * 5)) o) _ hex
    exact ⟨l, some a, cap, by rw [hll], by omega, fun i o h => ⟨a, rfl, hP i o h⟩⟩
/-- The cells in the walk's own spelling. -/
theorem OpAtS.flat {w : World} {p : Addr} {o : OpS} (h : OpAtS w p o) : w.cell? p = some (.int .i64 o.k) ∧ w.cell? ⟨p.block, p.off + 1, none⟩ = some (.int .i64 o.n) ∧ w.cell? ⟨p.block, p.off + 2, none⟩ = some (.int .i64 o.a) ∧
    w.cell? ⟨p.block, p.off + 3, none⟩ = some (.int .u8 (o.m.toNat : Int)) ∧ w.cell? ⟨p.block, p.off + 4, none⟩ = some (.string o.s) := ⟨h.k, h.n, h.a, h.m, h.s⟩
theorem OpAtS.lt {w : World} {p : Addr} {o : OpS} (h : OpAtS w p o) : p.block < w.heap.size := World.block_lt_of_cell? w p h.k
theorem OpAtS.below {B : Nat} {w w' : World} {p : Addr} {o : OpS} (h : OpAtS w p o) (hb : Below B w w') (hp : p.block < B) : OpAtS w' p o := by
  have hq : ∀ j, (p.add j).block = p.block := by intro j; unfold Addr.add; split <;> rfl
  exact ⟨(hb.cell hp).trans h.k, (hb.cell (by rw [hq]; exact hp)).trans h.n, (hb.cell (by rw [hq]; exact hp)).trans h.a, (hb.cell (by rw [hq]; exact hp)).trans h.m, (hb.cell (by rw [hq]; exact hp)).trans h.s, h.ok⟩
theorem ScriptS.below {w w' : World} {sl : Value} {l : List OpS} (h : ScriptS w sl l) (hb : Below w.heap.size w w') : ScriptS w' sl l := by
  obtain ⟨ao, cap, h1, h2, h3⟩ := h
  exact ⟨ao, cap, h1, h2, fun i o hi => by obtain ⟨a, e, ha⟩ := h3 i o hi; exact ⟨a, e, ha.below hb ha.lt⟩⟩
end Go.Proofs.Ytjednaendedpdaa
