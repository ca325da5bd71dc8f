/- The logs' laws: the fixed calls. The logs' laws: what a call of a script does to the numbers. Logs: the plain law of LogsKeeps. The logs' laws: dropped. The logs' laws: Same, where the second row begins further on. A step: append to a row whose block the region itself made. -/
import Derived.Test.YtjednaendedpdaaGreatM15
import Derived.Test.YtjednaendedpdaaGreatM22
import Derived.Test.YtjednaendedpdaaGreatM14
namespace Go.Proofs.YtjednaendedpdaaGreat
set_option maxRecDepth 100000
set_option linter.unusedVariables false
open Go Go.RowKit

theorem OwL.al {w wr : World} {B g q p bb cb : Nat} {v : Value} {s : FS} {l : LS} (h : OwL w wr B g q p bb cb v s l) (X : Obj) : OwL w (wr.alloc X) B g q p bb cb v s l := h.same ((Below.refl _ _).alloc (Nat.le_refl _) X)
theorem OwL.dn {w wr : World} {B g q p bb cb : Nat} {v : Value} {s : FS} {l : LS} (h : OwL w wr B g q p bb cb v s l) (n : Nat) : OwL w (wr.drewN n) B g q p bb cb v s l := h.same (belD (Below.refl _ _) n)
def z400 : List UInt8 := List.replicate 400 0
def z401 : List UInt8 := List.replicate 401 0
theorem fix_plain : ∃ s1, (bfs 5).lformat 1 4 = (s1, ⟨[(0, 1)], false⟩, 0) ∧ LInv 1 4 s1 ⟨[(0, 1)], false⟩ ∧ s1.lroom 1 ⟨[(0, 1)], false⟩ = 7 ∧
    ∃ sa la, s1.lappend 1 4 ⟨[(0, 1)], false⟩ [] 0 = (sa, la, 0) ∧ LInv 1 4 sa la ∧ la.segs = [(0, 1)] ∧ sa.lroom 1 la = 6 ∧
    ∃ sb lb, sa.lappend 1 4 la z400 0 = (sb, lb, 0) ∧ LInv 1 4 sb lb ∧ lb.segs = [(0, 1), (1, 2)] ∧ sb.lroom 1 lb = 0 ∧
      sb.lappend 1 4 lb [120] 2 = (sb, lb, 142) ∧ sb.lappend 1 4 lb z401 0 = (sb, lb, 141) ∧ recN (sb.blk 1 0) 7 1 = [[]] ∧ recN (sb.blk 1 1) 7 1 = [z400] ∧
    ∃ sc lc, sb.ldrop 1 4 lb 0 = (sc, lc, 0) ∧ LInv 1 4 sc lc ∧ sc.ldrop 1 4 lc 0 = (sc, lc, 140) := by
  have hz4 : z400.length = 400 := by unfold z400; rw [List.length_replicate]
  have hz1 : z401.length = 401 := by unfold z401; rw [List.length_replicate]
  have p0 : pgs 0 = 1 := by decide
  have p1 : pgs 1 = 1 := by decide
  have p4 : pgs 400 = 7 := by decide
  obtain ⟨s1, e1, st1, i1, a1, r1⟩ := lformat_inv (B := 4) (by omega) (by omega)
  refine ⟨s1, e1, i1, r1, ?_⟩
  have A1 := (i1.append (by show 1 + 1 < _; omega) [] 0).goes (by omega) (by simp) (by rw [r1]; show ¬ (7 < pgs 0 ∧ _); rw [p0]; omega)
  generalize s1.lappend 1 4 ⟨[(0, 1)], false⟩ [] 0 = Ra at A1
  obtain ⟨sa, la, ea⟩ := Ra
  obtain ⟨x1, x2⟩ := A1
  obtain ⟨rfl, sta⟩ := x1 st1
  rcases x2 with ⟨_, ia, aa, ra, sga, _⟩ | ⟨h, _⟩
  case inr => cases h
  dsimp only at sta ia aa ra sga
  rw [r1] at ra sga
  rw [show pgs ([] : List UInt8).length = 1 from p0, if_neg (by omega)] at ra sga
  refine ⟨sa, la, rfl, ia, sga, ra, ?_⟩
  have hna : la.newest = (0, 1) := by unfold LS.newest; rw [sga]; rfl
  have A2 := (ia.append (by rw [hna]; omega) z400 0).goes (by omega) (by omega) (by rw [ra, sga]; simp)
  generalize sa.lappend 1 4 la z400 0 = Rb at A2
  obtain ⟨sb, lb, eb⟩ := Rb
  obtain ⟨x1, x2⟩ := A2
  obtain ⟨rfl, stb⟩ := x1 sta
  rcases x2 with ⟨_, ib, ab, rb, sgb, kb⟩ | ⟨h, _⟩
  case inr => cases h
  dsimp only at stb ib ab rb sgb kb
  rw [hz4, p4, ra] at rb sgb kb
  rw [if_pos (by omega)] at rb sgb
  have hnx : la.next 4 = (1, 2) := by unfold LS.next; rw [hna]; rfl
  rw [sga, hnx] at sgb
  have sgb' : lb.segs = [(0, 1), (1, 2)] := sgb
  have hnb : lb.newest = (1, 2) := by unfold LS.newest; rw [sgb']; rfl
  have hb0 : recN (sb.blk 1 0) 7 1 = [[]] := by
    have := (kb (by omega)).2 (0, 1) (by rw [sga]; simp)
    dsimp only at this
    rw [this]
    rw [sga, a1] at aa
    unfold FS.lall at aa; simpa using aa
  have hb1 : recN (sb.blk 1 1) 7 1 = [z400] := by
    rw [sgb', aa, a1] at ab
    unfold FS.lall at ab
    simp only [List.flatMap_cons, List.flatMap_nil, List.append_nil, hb0, List.nil_append] at ab
    exact List.append_cancel_left ab
  refine ⟨sb, lb, rfl, ib, sgb', rb, ?_, ?_, hb0, hb1, ?_⟩
  · exact (ib.append (by rw [hnb]; omega) [120] 2).full (by omega) (by simp) (by rw [rb]; show 0 < pgs 1; rw [p1]; omega) (by rw [sgb']; simp)
  · exact (ib.append (by rw [hnb]; omega) z401 0).long (by omega) (by omega)
  · obtain ⟨d1, d2⟩ := ib.drop 0 (.inl rfl) (by rw [sgb']; simp) _ rfl
    generalize sb.ldrop 1 4 lb 0 = Rc at d1 d2
    obtain ⟨sc, lc, ec⟩ := Rc
    obtain ⟨rfl, stc⟩ := d1 stb
    rcases d2 with ⟨_, sgc, ic, _⟩ | ⟨h, _⟩
    case inr => cases h
    dsimp only at sgc ic
    refine ⟨sc, lc, rfl, ic, ?_⟩
    unfold FS.ldrop
    rw [if_pos (by rw [sgc, sgb']; rfl)]
set_option maxHeartbeats 4000000 in
theorem lfixed_any (w : World) : Calls Tryz.prog 13 #[] w fun e w' => e = .returned (.bool true) ∧ Below w.heap.size w w' := by
  obtain ⟨s1, e1, i1, r1, sa, la, ea, ia, ga, ra, sb, lb, eb, ib, gb, rb, e3, e4, n0, n1, sc, lc, ec, ic, ed⟩ := fix_plain
  have LD := Box.mk (laidl_any 4 w)
  rw [show bN 4 = 4 from rfl, e1] at LD
  unfold LaidL at LD
  have hmk0 := fun w => make_bytes 400 400 rfl (by omega) w
  have hmk1 := fun w => make_bytes 401 401 rfl (by omega) w
  go_enter Tryz.func13, Tryz.ntmps13
  go_wp2_with fail
  refine LD.out.mono ?_
  rintro e w1 ⟨q, p, bb, cb, p', kv, lv, rfl, hb, hlo, hq, hf, hok, hc⟩
  rcases hc with ⟨h, _⟩ | ⟨_, g, v, rfl, hl, hg, hv⟩
  · exact absurd rfl h
  have OW := Box.mk (show OwL w w1 4 g q p bb cb v s1 ⟨[(0, 1)], false⟩ from ⟨hl, fun k hk => by
    rcases List.mem_cons.1 hk with rfl | hk
    · exact hg
    · exact hlo k hk, hv, hb⟩)
  clear hb hlo hq hf hok hl hg hv LD
  have I1 := Box.mk i1; have IA := Box.mk ia; have IB := Box.mk ib; have IC := Box.mk ic
  have HP := Box.mk (And.intro ga (And.intro ra (And.intro gb rb)))
  have SEG1 := Box.mk ((OW.out).segs i1 (by omega))
  have FREE1 := Box.mk (fun wr (h : OwL w wr 4 g q p bb cb v s1 ⟨[(0, 1)], false⟩) => h.free i1)
  have RM1 := Box.mk (fun wr (h : OwL w wr 4 g q p bb cb v s1 ⟨[(0, 1)], false⟩) => h.room i1)
  rw [r1] at RM1
  have AP1 := Box.mk (fun wr (h : OwL w wr 4 g q p bb cb v s1 ⟨[(0, 1)], false⟩) => h.append i1 ⟨#[]⟩ 0 (by decide) (by show 1 + 1 < _; omega))
  rw [show (⟨#[]⟩ : ByteArray).data.toList = [] from rfl, ea] at AP1
  have HEQ := Box.mk (And.intro eb (And.intro e3 (And.intro e4 (And.intro n0 (And.intro n1 (And.intro ec ed))))))
  obtain ⟨Z4, hZ4⟩ : ∃ Z : ByteArray, Z = ⟨z400.toArray⟩ := ⟨_, rfl⟩
  obtain ⟨Z1, hZ1⟩ : ∃ Z : ByteArray, Z = ⟨z401.toArray⟩ := ⟨_, rfl⟩
  have CV4 := Box.mk (fun w => zeros_str 400 w)
  have CV1 := Box.mk (fun w => zeros_str 401 w)
  rw [show (⟨(List.replicate 400 0).toArray⟩ : ByteArray) = Z4 by rw [hZ4]; rfl] at CV4
  rw [show (⟨(List.replicate 401 0).toArray⟩ : ByteArray) = Z1 by rw [hZ1]; rfl] at CV1
  have HZ := Box.mk (And.intro hZ4 hZ1)
  have hmk4 := fun w => make_bytes 400 400 rfl (by omega) w
  have hmk5 := fun w => make_bytes 401 401 rfl (by omega) w
  clear e1 i1 r1 ea ia ga ra eb ib gb rb e3 e4 n0 n1 ec ic ed hZ4 hZ1 hmk0 hmk1
  go_wp2_with fail
  refine SEG1.out.mono ?_
  rintro e w2 ⟨gs, cap, rfl, hown, ho, hb⟩
  have OW2 := Box.mk ho; have R2 := Box.mk hown
  clear ho hb hown SEG1 OW
  have SM2 := Box.mk (same8_any gs cap w2.heap.size 1 [1] [1] (by decide) (by decide) (w2.alloc (.cells #[.int .i64 1] 3)) (fun j u hu => by
    match j, hu with
    | 0, hu => simp at hu; subst hu; exact cellA _ ((R2.out.cellAt 0 (by decide)).trans rfl)
    | j + 1, hu => simp at hu) (fun j u hu => by
    match j, hu with
    | 0, hu => simp at hu; subst hu; rw [cell_of_row _ _ _ _ _ _ (heap_alloc_new _ _)]; rfl
    | j + 1, hu => simp at hu))
  rw [decide_eq_true (rfl : ([1] : List Int) = [1])] at SM2
  go_wp2_with fail
  refine SM2.out.mono ?_
  rintro e w3 ⟨rfl, n3, rfl⟩
  have OW3 := Box.mk ((OW2.out.al (.cells #[.int .i64 1] 3)).dn n3)
  generalize (w2.alloc (.cells #[.int .i64 1] 3)).drewN n3 = w3 at OW3 ⊢
  clear OW2 R2 SM2
  go_wp2_with fail
  refine (FREE1.out _ OW3.out).mono ?_
  rintro e w4 ⟨rfl, ho, _⟩
  have OW4 := Box.mk ho
  clear ho OW3 FREE1
  go_wp2_with fail
  refine (RM1.out _ OW4.out).mono ?_
  rintro e w5 ⟨rfl, ho, _⟩
  have OW5 := Box.mk ho
  clear ho OW4 RM1
  go_wp2_with fail
  refine (AP1.out _ OW5.out).mono ?_
  rintro e w6 ⟨rfl, ⟨v6, ho⟩, _⟩
  have OW6 := Box.mk ho
  have RM6 := Box.mk (ho.room IA.out)
  rw [HP.out.2.1] at RM6
  clear ho OW5 AP1
  go_wp2_with fail
  refine RM6.out.mono ?_
  rintro e w7 ⟨rfl, ho, _⟩
  have OW7 := Box.mk ho
  have hcv4 := CV4.out w7
  have hz4s : Z4.size ≤ 9223372036854775807 := by rw [HZ.out.1]; show z400.toArray.size ≤ _; rw [List.size_toArray]; unfold z400; rw [List.length_replicate]; omega
  have AP7 := Box.mk ((OW7.out.al (.cells (Array.replicate 400 (.int .u8 0)) 5)).append IA.out Z4 0 hz4s (by
    have : la.newest = (0, 1) := by unfold LS.newest; rw [HP.out.1]; rfl
    rw [this]; omega))
  rw [show Z4.data.toList = z400 by rw [HZ.out.1], HEQ.out.1] at AP7
  clear ho OW6 RM6 hz4s
  go_wp2_with fail
  refine AP7.out.mono ?_
  rintro e w8 ⟨rfl, ⟨v8, ho⟩, _⟩
  have OW8 := Box.mk ho
  have SG8 := Box.mk (ho.segs IB.out (by omega))
  rw [HP.out.2.2.1] at SG8
  have FR8 := Box.mk (fun wr (h : OwL w wr 4 g q p bb cb v8 sb lb) => h.free IB.out)
  have RM8 := Box.mk (fun wr (h : OwL w wr 4 g q p bb cb v8 sb lb) => h.room IB.out)
  rw [HP.out.2.2.1] at FR8
  rw [HP.out.2.2.2] at RM8
  have hnb : lb.newest.2 + 1 < 281474976710656 := by
    have : lb.newest = (1, 2) := by unfold LS.newest; rw [HP.out.2.2.1]; rfl
    rw [this]; omega
  have AP8 := Box.mk (fun wr (h : OwL w wr 4 g q p bb cb v8 sb lb) => h.append IB.out ⟨#[120]⟩ 2 (by decide) hnb)
  rw [show (⟨#[120]⟩ : ByteArray).data.toList = [120] from rfl, HEQ.out.2.1] at AP8
  have hz1s : Z1.size ≤ 9223372036854775807 := by rw [HZ.out.2]; show z401.toArray.size ≤ _; rw [List.size_toArray]; unfold z401; rw [List.length_replicate]; omega
  have AP9 := Box.mk (fun v8 wr (h : OwL w wr 4 g q p bb cb v8 sb lb) => h.append IB.out Z1 0 hz1s hnb)
  rw [show Z1.data.toList = z401 by rw [HZ.out.2], HEQ.out.2.2.1] at AP9
  have RC1 := Box.mk (fun v8 wr (h : OwL w wr 4 g q p bb cb v8 sb lb) => h.records IB.out (0, 1) (by rw [HP.out.2.2.1]; simp))
  have RC2 := Box.mk (fun v8 wr (h : OwL w wr 4 g q p bb cb v8 sb lb) => h.records IB.out (1, 2) (by rw [HP.out.2.2.1]; simp))
  dsimp only at RC1 RC2
  rw [HEQ.out.2.2.2.1] at RC1
  rw [HEQ.out.2.2.2.2.1] at RC2
  have DR8 := Box.mk (fun v8 wr (h : OwL w wr 4 g q p bb cb v8 sb lb) => h.oldest IB.out)
  rw [HEQ.out.2.2.2.2.2.1] at DR8
  clear ho OW7 AP7 hnb hz1s hcv4
  go_wp2_with fail
  refine SG8.out.mono ?_
  rintro e w9 ⟨gs, cap, rfl, hown, ho, hb⟩
  have OW9 := Box.mk ho; have R9 := Box.mk hown
  clear ho hb hown SG8 OW8
  have SM9 := Box.mk (same8_any gs cap w9.heap.size 2 [1, 2] [1, 2] (by decide) (by decide) (w9.alloc (.cells #[.int .i64 1, .int .i64 2] 3)) (fun j u hu => by
    match j, hu with
    | 0, hu => simp at hu; subst hu; exact cellA _ ((R9.out.cellAt 0 (by decide)).trans rfl)
    | 1, hu => simp at hu; subst hu; exact cellA _ ((R9.out.cellAt 1 (by decide)).trans rfl)
    | j + 2, hu => simp at hu) (fun j u hu => by
    match j, hu with
    | 0, hu => simp at hu; subst hu; rw [cell_of_row _ _ _ _ _ _ (heap_alloc_new _ _)]; rfl
    | 1, hu => simp at hu; subst hu; rw [cell_of_row _ _ _ _ _ _ (heap_alloc_new _ _)]; rfl
    | j + 2, hu => simp at hu))
  rw [decide_eq_true (rfl : ([1, 2] : List Int) = [1, 2])] at SM9
  go_wp2_with fail
  refine SM9.out.mono ?_
  rintro e w10 ⟨rfl, n10, rfl⟩
  have OW10 := Box.mk ((OW9.out.al (.cells #[.int .i64 1, .int .i64 2] 3)).dn n10)
  generalize (w9.alloc (.cells #[.int .i64 1, .int .i64 2] 3)).drewN n10 = w10 at OW10 ⊢
  clear OW9 R9 SM9
  go_wp2_with fail
  refine (FR8.out _ OW10.out).mono ?_
  rintro e w11 ⟨rfl, ho, _⟩
  have OW11 := Box.mk ho
  clear ho OW10 FR8
  go_wp2_with fail
  refine (RM8.out _ OW11.out).mono ?_
  rintro e w12 ⟨rfl, ho, _⟩
  have OW12 := Box.mk ho
  clear ho OW11 RM8
  go_wp2_with fail
  refine (AP8.out _ OW12.out).mono ?_
  rintro e w13 ⟨rfl, ⟨v13, ho⟩, _⟩
  have OW13 := Box.mk ho
  have hcv5 := CV1.out w13
  clear ho OW12 AP8
  go_wp2_with fail
  refine (AP9.out _ _ (OW13.out.al (.cells (Array.replicate 401 (.int .u8 0)) 5))).mono ?_
  rintro e w14 ⟨rfl, ⟨v14, ho⟩, _⟩
  have OW14 := Box.mk ho
  clear ho OW13 AP9 hcv5
  go_wp2_with fail
  refine (RC1.out _ _ OW14.out).mono ?_
  rintro e w15 ⟨⟨x1, rfl, hx1⟩, ho, _⟩
  have OW15 := Box.mk ho
  obtain ⟨g1, c1, rfl⟩ := own_formI hx1 (by decide)
  have X15 := Box.mk hx1
  clear ho OW14 RC1 hx1
  go_wp2_with fail
  refine (RC2.out _ _ OW15.out).mono ?_
  rintro e w16 ⟨⟨x2, rfl, hx2⟩, ho, hb16⟩
  have OW16 := Box.mk ho
  obtain ⟨g2, c2, rfl⟩ := own_formI hx2 (by decide)
  have X16 := Box.mk (own_below X15.out hb16); have Y16 := Box.mk hx2
  clear ho OW15 RC2 hx2 hb16 X15
  go_wp2_with fail
  refine (DR8.out _ _ OW16.out).mono ?_
  rintro e w17 ⟨rfl, ⟨v17, ho⟩, hu⟩
  have X17 := Box.mk (own_keep X16.out (w' := w17) fun k hk hl => hu.block k hl (OW16.out.lg.apart X16.out k hk)); have Y17 := Box.mk (own_keep Y16.out (w' := w17) fun k hk hl => hu.block k hl (OW16.out.lg.apart Y16.out k hk))
  have OW17 := Box.mk ho
  have DR := Box.mk (ho.oldest IC.out)
  rw [HEQ.out.2.2.2.2.2.2] at DR
  clear ho hu OW16 X16 Y16 DR8
  go_wp2_with fail
  refine DR.out.mono ?_
  rintro e w18 ⟨rfl, ⟨v18, ho⟩, hu⟩
  have X18 := Box.mk (own_keep X17.out (w' := w18) fun k hk hl => hu.block k hl (OW17.out.lg.apart X17.out k hk)); have Y18 := Box.mk (own_keep Y17.out (w' := w18) fun k hk hl => hu.block k hl (OW17.out.lg.apart Y17.out k hk))
  have BE := Box.mk ho.be
  clear ho hu OW17 X17 Y17 DR
  go_wp2_with fail
  refine (same_any _ _ [⟨#[]⟩] [⟨#[]⟩] (by decide) (by decide) _ g1 c1 w18.heap.size 1 rfl rfl (fun j u hu => by
    match j, hu with
    | 0, hu => simp at hu; subst hu; exact cellA _ ((X18.out.cellAt 0 (by decide)).trans rfl)
    | j + 1, hu => simp at hu) (fun j u hu => by
    match j, hu with
    | 0, hu => simp at hu; subst hu; rw [cell_of_row _ _ _ _ _ _ (heap_alloc_new _ _)]; rfl
    | j + 1, hu => simp at hu)).mono ?_
  rw [decide_eq_true (rfl : ([⟨#[]⟩] : List ByteArray) = [⟨#[]⟩])]
  rintro e w19 ⟨rfl, n19, rfl⟩
  have b19 : Below w18.heap.size w18 ((w18.alloc (.cells #[.string ⟨#[]⟩] 9)).drewN n19) := belD ((Below.refl _ _).alloc (Nat.le_refl _) _) n19
  have Y19 := own_below Y18.out b19
  have cz : ((w18.alloc (.cells #[.string ⟨#[]⟩] 9)).drewN n19).cell? ⟨g2, 0, none⟩ = some (.string Z4) := by
    rw [Y19.cellAt 0 (by decide), HZ.out.1]; rfl
  have B19 := Box.mk (BE.out.trans (b19.mono BE.out.size))
  have hzs : Z4.size = 400 := by rw [HZ.out.1]; show z400.toArray.size = _; rw [List.size_toArray]; unfold z400; rw [List.length_replicate]
  generalize (w18.alloc (.cells #[.string ⟨#[]⟩] 9)).drewN n19 = w19 at cz B19 ⊢
  clear b19 Y19 X18 Y18 BE
  have PG1 := Box.mk (fun w => pages_any 61 (by omega) w)
  rw [show pgs 61 = 2 from by decide] at PG1
  go_wp2_with fail
  refine (PG1.out _).mono ?_
  rintro e w20 ⟨rfl, rfl⟩
  go_wp2_with fail
  refine (pages_neg _).mono ?_
  rintro e w21 ⟨rfl, rfl⟩
  go_wp2_with fail
  go_ret
  exact ⟨rfl, B19.out⟩
end Go.Proofs.YtjednaendedpdaaGreat
namespace Go.Proofs.YtjednaendedpdaaGreat
set_option maxRecDepth 100000
set_option linter.unusedVariables false
open Go Go.RowKit

/-- The oldest segment's number. -/
def LS.first (l : LS) : Nat := (l.segs.getD 0 (0, 0)).2
theorem first_chain {l : LS} {B b0 n0 m : Nat} (h : l.segs = chainL B b0 n0 (m + 1)) : l.first = n0 := by
  unfold LS.first
  rw [h, List.getD_eq_getElem?_getD, chainL_at _ _ _ _ _ (by omega)]; rfl
theorem LInv.nums {F B : Nat} {s : FS} {l : LS} (h : LInv F B s l) : ∃ m, l.segs.length = m + 1 ∧ m + 1 ≤ B ∧ l.newest.2 = l.first + m ∧ 1 ≤ l.first ∧ ∀ i, i ≤ m → (segN l.segs)[i]? = some (.int .i64 ((l.first + i : Nat) : Int)) := by
  obtain ⟨b0, n0, m, h1, h2, h3, h4, h5⟩ := h.by_.ch
  obtain ⟨m, rfl⟩ : ∃ k, m = k + 1 := ⟨m - 1, by omega⟩
  have hf := first_chain h5
  refine ⟨m, by rw [h5, chainL_len], h4, by rw [newest_chain h5, hf], by omega, fun i hi => ?_⟩
  unfold segN
  rw [List.getElem?_map, h5, chainL_at _ _ _ _ _ (by omega), hf]; rfl
/-- A call of a script. -/
def nStep (B : Nat) (s : FS) (l : LS) (k : Int) (r : List UInt8) : FS × LS × Int :=
  if k = 0 then s.lappend 1 B l r 0 else if k = 1 then s.ldrop 1 B l 0 else if k = 2 then s.ldrop 1 B l (l.segs.length - 1) else (s, l, 0)
structure NumOut (B : Nat) (s : FS) (l : LS) (k : Int) (R : FS × LS × Int) : Prop where
  inv : LInv 1 B R.1 R.2.1
  st : R.1.Still
  num : R.2.1.newest.2 ≤ l.newest.2 + 1
  bad : R.2.2 ≠ 0 → R.2.1.segs = l.segs
  first : (k ≠ 1 ∨ R.2.2 ≠ 0) → R.2.1.first = l.first
  next : k = 1 → R.2.2 = 0 → R.2.1.first = l.first + 1
theorem NumOut.still {B : Nat} {s : FS} {l : LS} {k e : Int} (h : LInv 1 B s l) (st : s.Still) (he : k = 1 → e ≠ 0) : NumOut B s l k (s, l, e) :=
  ⟨h, st, by show l.newest.2 ≤ _; omega, fun _ => rfl, fun _ => rfl, fun a b => absurd b (he a)⟩
theorem num_step {B : Nat} {s : FS} {l : LS} (h : LInv 1 B s l) (st : s.Still) (hn : l.newest.2 + 1 < 281474976710656) (k : Int) (r : List UInt8) : NumOut B s l k (nStep B s l k r) := by
  have hne := h.by_.lok.ne
  have hl0 : 0 < l.segs.length := List.length_pos_iff.2 hne
  unfold nStep
  by_cases h0 : k = 0
  · rw [if_pos h0]
    have AO := h.append hn r 0
    by_cases hlong : 400 < r.length
    · rw [AO.long (Int.le_refl _) hlong]; exact .still h st (by omega)
    · by_cases hfull : s.lroom 1 l < pgs r.length ∧ ((B - l.segs.length : Nat) : Int) ≤ 0
      · rw [AO.full (Int.le_refl _) (by omega) hfull.1 hfull.2]; exact .still h st (by omega)
      · obtain ⟨g1, g2⟩ := AO.goes (Int.le_refl _) (by omega) hfull
        obtain ⟨e0, st2⟩ := g1 st
        rcases g2 with ⟨_, i2, _, _, gs, _⟩ | ⟨he, _⟩
        · refine ⟨i2, st2, ?_, fun h => absurd e0 h, fun _ => ?_, fun h => by omega⟩
          · unfold LS.newest
            rw [gs]
            split
            · rw [List.length_append, List.length_singleton, Nat.add_sub_cancel, List.getD_eq_getElem?_getD, List.getElem?_append_right (Nat.le_refl _), Nat.sub_self]
              show l.newest.2 + 1 ≤ l.newest.2 + 1
              omega
            · show l.newest.2 ≤ l.newest.2 + 1; omega
          · unfold LS.first
            rw [gs]
            split
            · rw [List.getD_eq_getElem?_getD, List.getD_eq_getElem?_getD, List.getElem?_append_left hl0]
            · rfl
        · rw [e0] at he; cases he
  · rw [if_neg h0]
    have hdrop : ∀ i, (i = 0 ∧ k = 1) ∨ (i + 1 = l.segs.length ∧ k = 2) → NumOut B s l k (s.ldrop 1 B l i) := by
      intro i hi
      by_cases h1 : l.segs.length = 1
      · rw [show s.ldrop 1 B l i = (s, l, 140) by unfold FS.ldrop; rw [if_pos h1]]; exact .still h st (by omega)
      · obtain ⟨d1, d2⟩ := h.drop i (by omega) h1 _ rfl
        obtain ⟨e0, st2⟩ := d1 st
        rcases d2 with ⟨_, gs, i2, _⟩ | ⟨he, _⟩
        · obtain ⟨b0, n0, m, h2, h3, h4, h5, h6⟩ := h.by_.ch
          have hlen : l.segs.length = m := by rw [h6, chainL_len]
          obtain ⟨m, rfl⟩ : ∃ k, m = k + 2 := ⟨m - 2, by omega⟩
          have hnew : l.newest.2 = n0 + (m + 1) := by rw [newest_chain h6]
          have hfir : l.first = n0 := first_chain h6
          rcases hi with ⟨rfl, hk⟩ | ⟨hi, hk⟩
          · rw [h6, chainL_tail _ _ _ _ (by omega)] at gs
            refine ⟨i2, st2, by rw [newest_chain gs, hnew]; show n0 + 1 + m ≤ _; omega, fun h => absurd e0 h, fun h => ?_, fun _ _ => by rw [first_chain gs, hfir]⟩
            rcases h with h | h
            · exact absurd hk h
            · exact absurd e0 h
          · obtain rfl : i = m + 1 := by omega
            rw [h6, chainL_init] at gs
            exact ⟨i2, st2, by rw [newest_chain gs, hnew]; show n0 + m ≤ _; omega, fun h => absurd e0 h, fun _ => by rw [first_chain gs, hfir], fun h => by omega⟩
        · rw [e0] at he; cases he
    by_cases h1 : k = 1
    · rw [if_pos h1]; exact hdrop 0 (.inl ⟨rfl, h1⟩)
    · rw [if_neg h1]
      by_cases h2 : k = 2
      · rw [if_pos h2]; exact hdrop _ (.inr ⟨by omega, h2⟩)
      · rw [if_neg h2]; exact .still h st (fun h => absurd h h1)
theorem fp_lt {w : World} {F B : Int} {g q p bb cb : Nat} {v : Value} {s : FS} {l : LS} (h : LgS w F B g q p bb cb v s l) (x : Nat) (hx : x ∈ fp g v p bb cb) : x < w.heap.size := by
  have h1 := h.f.lt; have h2 := h.lg.lt
  unfold fp at hx
  simp only [List.mem_cons, Option.mem_toList] at hx
  rcases hx with rfl | rfl | rfl | rfl | hx
  · exact h2
  · exact h1.1
  · exact h1.2.1
  · exact h1.2.2
  · exact (World.ownsRow.lt h.lg.own x hx).2
/-- A row of younger blocks outlasts a change of the log's. -/
theorem row_keeps {w w1 w2 : World} {F B : Int} {g q p bb cb : Nat} {v : Value} {s : FS} {l : LS} (h : LgS w F B g q p bb cb v s l) {base size n : Nat} {e : TypeId} {x : Value} {xs : List Value} (ho : w1.ownsRow base e size x n xs) (hb : w.heap.size ≤ base) (hu : Upd (fp g v p bb cb) w1 w2) : w2.ownsRow base e size x n xs :=
  own_keep ho fun k hk hl => hu.block k hl fun hm => by
    have h1 := fp_lt h k hm
    have h2 := (World.ownsRow.lt ho k hk).1
    omega
end Go.Proofs.YtjednaendedpdaaGreat
namespace Go.Proofs.YtjednaendedpdaaGreat
set_option maxRecDepth 100000
set_option linter.unusedVariables false
open Go Go.RowKit

theorem mem_le {F B : Nat} {s : FS} {l : LS} (h : LBy F B s l.segs) (x : Nat × Nat) (hx : x ∈ l.segs) : x.2 ≤ l.newest.2 := by
  obtain ⟨b0, n0, m, h1, h2, h3, h4, h5⟩ := h.ch
  obtain ⟨m, rfl⟩ : ∃ k, m = k + 1 := ⟨m - 1, by omega⟩
  rw [newest_chain h5]
  rw [h5] at hx
  obtain ⟨i, hi, rfl⟩ := chainL_mem hx
  show n0 + i ≤ n0 + m
  omega
/-- What a call leaves: the records are those that were there, or the next ones. -/
structure KeepO (B : Nat) (s : FS) (l : LS) (R : FS × LS × Int) (hv nxt : List (List UInt8)) : Prop where
  ex : ∃ segs', LBy 1 B R.1 segs' ∧ (R.1.dead = false → LInv 1 B R.1 R.2.1 ∧ R.2.1.segs = segs') ∧ (∀ x ∈ segs', x.2 ≤ l.newest.2 + 1) ∧
    ((R.2.2 = 0 ∧ R.1.dead = false ∧ R.1.lall 1 segs' = nxt) ∨ (R.2.2 = 2 ∧ R.1.dead = true ∧ (R.1.lall 1 segs' = hv ∨ R.1.lall 1 segs' = nxt)) ∨ (R.2.2 ≠ 0 ∧ R.2.2 ≠ 2 ∧ R.1.dead = false ∧ R.1.lall 1 segs' = hv))
theorem KeepO.still {B : Nat} {s : FS} {l : LS} (h : LInv 1 B s l) (e : Int) (h0 : e ≠ 0) (h2 : e ≠ 2) (nxt : List (List UInt8)) : KeepO B s l (s, l, e) (s.lall 1 l.segs) nxt :=
  ⟨l.segs, h.by_, fun _ => ⟨h, rfl⟩, fun x hx => by have := mem_le h.by_ x hx; omega, .inr (.inr ⟨h0, h2, h.alive, rfl⟩)⟩
theorem keep_append {B : Nat} {s : FS} {l : LS} (h : LInv 1 B s l) (hn : l.newest.2 + 1 < 281474976710656) (r : List UInt8) (sp : Int) : KeepO B s l (s.lappend 1 B l r sp) (s.lall 1 l.segs) (s.lall 1 l.segs ++ [r]) := by
  have AO := h.append hn r sp
  by_cases hs : sp < 0
  · rw [AO.neg hs]; exact .still h 1 (by decide) (by decide) _
  · by_cases hlong : 400 < r.length
    · rw [AO.long (by omega) hlong]; exact .still h 141 (by decide) (by decide) _
    · by_cases hfull : s.lroom 1 l < pgs r.length ∧ ((B - l.segs.length : Nat) : Int) ≤ sp
      · rw [AO.full (by omega) (by omega) hfull.1 hfull.2]; exact .still h 142 (by decide) (by decide) _
      · have bnd : ∀ segs', segs' = l.segs ∨ segs' = l.segs ++ [l.next B] → ∀ x ∈ segs', x.2 ≤ l.newest.2 + 1 := by
          rintro segs' (rfl | rfl) x hx
          · have := mem_le h.by_ x hx; omega
          · rcases List.mem_append.1 hx with hx | hx
            · have := mem_le h.by_ x hx; omega
            · rw [List.mem_singleton] at hx; subst hx; exact Nat.le_refl _
        rcases (AO.goes (by omega) (by omega) hfull).2 with ⟨e0, i2, a2, _, g2, _⟩ | ⟨e2, hd, segs', hby, ha, hsg⟩
        · exact ⟨_, i2.by_, fun _ => ⟨i2, rfl⟩, bnd _ (by rw [g2]; split; exact .inr rfl; exact .inl rfl), .inl ⟨e0, i2.alive, a2⟩⟩
        · exact ⟨segs', hby, fun h' => absurd (hd.symm.trans h') (by decide), bnd _ hsg, .inr (.inl ⟨e2, hd, ha⟩)⟩
theorem keep_drop {B : Nat} {s : FS} {l : LS} (h : LInv 1 B s l) (i : Nat) (hi : i = 0 ∨ i + 1 = l.segs.length) : KeepO B s l (s.ldrop 1 B l i) (s.lall 1 l.segs) (s.lall 1 (l.segs.eraseIdx i)) := by
  by_cases h1 : l.segs.length = 1
  · rw [show s.ldrop 1 B l i = (s, l, 140) by unfold FS.ldrop; rw [if_pos h1]]; exact .still h 140 (by decide) (by decide) _
  · have bnd : ∀ segs', segs' = l.segs ∨ segs' = l.segs.eraseIdx i → ∀ x ∈ segs', x.2 ≤ l.newest.2 + 1 := by
      rintro segs' (rfl | rfl) x hx
      · have := mem_le h.by_ x hx; omega
      · have := mem_le h.by_ x (List.mem_of_mem_eraseIdx hx); omega
    rcases (h.drop i hi h1 _ rfl).2 with ⟨e0, g2, i2, a2⟩ | ⟨e2, hd, segs', hby, ha, hsg⟩
    · exact ⟨_, i2.by_, fun _ => ⟨i2, rfl⟩, bnd _ (.inr g2), .inl ⟨e0, i2.alive, by rw [g2]; exact a2⟩⟩
    · refine ⟨segs', hby, fun h' => absurd (hd.symm.trans h') (by decide), bnd _ hsg, .inr (.inl ⟨e2, hd, ?_⟩)⟩
      rcases hsg with rfl | rfl
      · exact .inl ha
      · exact .inr ha
/-- Nothing but the power. -/
theorem keep_none {B : Nat} {s s' : FS} {l : LS} (h : LInv 1 B s l) (hb : s'.b = s.b) (hn : s'.n = s.n) (ok : s'.Ok) (hv : List (List UInt8)) (he : hv = s.lall 1 l.segs) :
    LBy 1 B s' l.segs ∧ s'.lall 1 l.segs = hv ∧ ∀ x ∈ l.segs, x.2 ≤ l.newest.2 + 1 := by
  have hpg : ∀ F b p, s'.pg F b p = s.pg F b p := fun F b p => by unfold FS.pg; rw [hb]
  have hbk : ∀ F b, s'.blk F b = s.blk F b := fun F b => by unfold FS.blk; rw [hb]
  refine ⟨⟨ok, by rw [hn]; exact h.by_.inn, h.by_.ch, fun x hx => by rw [hpg]; exact h.by_.hd x hx, fun b h1 h2 => by rw [hpg]; exact h.by_.fr b h1 h2, fun x hx => by rw [hbk]; exact h.by_.gd x hx⟩, ?_, fun x hx => by have := mem_le h.by_ x hx; omega⟩
  rw [he]; unfold FS.lall
  simp only [hbk]
/-- The power comes back. -/
theorem LBy.same {F B : Nat} {s s' : FS} {segs : List (Nat × Nat)} (h : LBy F B s segs) (hb : s'.b = s.b) (hn : s'.n = s.n) (ok : s'.Ok) : LBy F B s' segs ∧ s'.lall F segs = s.lall F segs := by
  have hpg : ∀ F b p, s'.pg F b p = s.pg F b p := fun F b p => by unfold FS.pg; rw [hb]
  have hbk : ∀ F b, s'.blk F b = s.blk F b := fun F b => by unfold FS.blk; rw [hb]
  refine ⟨⟨ok, by rw [hn]; exact h.inn, h.ch, fun x hx => by rw [hpg]; exact h.hd x hx, fun b h1 h2 => by rw [hpg]; exact h.fr b h1 h2, fun x hx => by rw [hbk]; exact h.gd x hx⟩, ?_⟩
  unfold FS.lall
  simp only [hbk]
end Go.Proofs.YtjednaendedpdaaGreat
namespace Go.Proofs.YtjednaendedpdaaGreat
set_option maxRecDepth 100000
set_option linter.unusedVariables false
open Go Go.RowKit

theorem lall_first {s : FS} {F : Nat} {segs : List (Nat × Nat)} {x : Nat × Nat} (h : segs[0]? = some x) : (recN (s.blk F x.1) 7 1).length ≤ (s.lall F segs).length ∧ s.lall F (segs.eraseIdx 0) = (s.lall F segs).drop (recN (s.blk F x.1) 7 1).length := by
  match segs, h with
  | y :: tl, h =>
    simp at h; subst h
    have e : s.lall F (y :: tl) = recN (s.blk F y.1) 7 1 ++ s.lall F tl := by unfold FS.lall; rw [List.flatMap_cons]
    rw [e, List.length_append, List.drop_left]
    exact ⟨by omega, rfl⟩
theorem lall_last {s : FS} {F : Nat} {segs : List (Nat × Nat)} {x : Nat × Nat} {i : Nat} (hi : i + 1 = segs.length) (h : segs[i]? = some x) : (recN (s.blk F x.1) 7 1).length ≤ (s.lall F segs).length ∧ s.lall F (segs.eraseIdx i) = (s.lall F segs).take ((s.lall F segs).length - (recN (s.blk F x.1) 7 1).length) := by
  have e1 : segs = segs.take i ++ [x] := by
    have := List.take_append_drop i segs
    rw [List.drop_eq_getElem_cons (by omega), List.drop_eq_nil_of_le (by omega)] at this
    have hx := (List.getElem?_eq_some_iff.1 h).2
    rw [hx] at this
    exact this.symm
  have e2 : segs.eraseIdx i = segs.take i := by rw [List.eraseIdx_eq_take_drop_succ, List.drop_eq_nil_of_le (by omega), List.append_nil]
  have e3 : s.lall F segs = s.lall F (segs.take i) ++ recN (s.blk F x.1) 7 1 := by
    rw [e1, lall_app]
    have : (segs.take i ++ [x]).take i = segs.take i := by rw [← e1]
    rw [this]
    unfold FS.lall; simp
  rw [e2, e3, List.length_append]
  refine ⟨by omega, ?_⟩
  rw [Nat.add_sub_cancel, List.take_left]
theorem cell_seg {w : World} {base g cap n : Nat} {l : List (Nat × Nat)} (h : w.ownsRow base 3 1 (.slice (some ⟨g, 0, none⟩) n cap) n (segN l)) (hn : n = l.length) {i : Nat} {x : Nat × Nat} (hx : l[i]? = some x) : w.cell? ⟨g, i, none⟩ = some (.int .i64 (x.2 : Int)) := by
  have hi := (List.getElem?_eq_some_iff.1 hx).1
  rw [h.cellAt i (by omega)]
  unfold segN; rw [List.getElem?_map, hx]; rfl
theorem own_slf {w : World} {base size n : Nat} {e : TypeId} {v : Value} {xs : List Value} (h : w.ownsRow base e size v n xs) : ∃ a cap, v = .slice a n cap := by
  rcases h.2 with ⟨h1, h2⟩ | ⟨g, cap, cur, hv, _⟩
  · exact ⟨none, 0, by rw [h1, h2]⟩
  · exact ⟨_, cap, hv⟩
set_option maxHeartbeats 4000000 in
theorem dropped_any {w wr : World} {B g q p bb cb : Nat} {v : Value} {s : FS} {l : LS} (h : OwL w wr B g q p bb cb v s l) (hi : LInv 1 B s l) (hB : B ≤ 12) (nw : Bool) (go n c : Nat) (hn : n = (s.lall 1 l.segs).length) (hn1 : n ≤ 100000) (hnc : n ≤ c) (hc : c ≤ 9223372036854775807) (i : Nat) (hi2 : i = if nw then l.segs.length - 1 else 0) :
    Calls Tryz.prog 17 #[.pointer (some ⟨g, 0, none⟩), .bool nw, .slice (some ⟨go, 0, none⟩) n c] wr fun e w' => (∃ v', OwL w w' B g q p bb cb v' (s.ldrop 1 B l i).1 (s.ldrop 1 B l i).2.1) ∧ Upd (fp g v p bb cb) wr w' ∧
      (((s.ldrop 1 B l i).2.2 = 140 ∧ e = .returned (.tuple #[.slice (some ⟨go, 0, none⟩) n c, .int .i64 140])) ∨
       ((s.ldrop 1 B l i).2.2 ≠ 140 ∧ ∃ o m c2, e = .returned (.tuple #[.slice (some ⟨go, o, none⟩) m c2, .int .i64 (s.ldrop 1 B l i).2.2]) ∧ s.lall 1 (l.segs.eraseIdx i) = ((s.lall 1 l.segs).drop o).take m ∧ o + m ≤ n)) := by
  have hl0 : 0 < l.segs.length := List.length_pos_iff.2 hi.by_.lok.ne
  have hl12 : l.segs.length ≤ 12 := by have := hi.by_.lok.few; omega
  obtain ⟨x, hx⟩ : ∃ x, l.segs[i]? = some x := ⟨_, List.getElem?_eq_getElem (by rw [hi2]; split <;> omega)⟩
  have hxm := List.mem_of_getElem? hx
  obtain ⟨k, hk⟩ : ∃ k, k = (recN (s.blk 1 x.1) 7 1).length := ⟨_, rfl⟩
  have HI := Box.mk hi
  have SG := Box.mk (h.segs hi hB)
  have RC := Box.mk (fun w1 (h1 : OwL w w1 B g q p bb cb v s l) => h1.records hi x hxm)
  rw [← hk] at RC
  have DO := Box.mk (fun w1 (h1 : OwL w w1 B g q p bb cb v s l) => h1.oldest hi)
  have DN := Box.mk (fun w1 (h1 : OwL w w1 B g q p bb cb v s l) => h1.dnewest hi)
  have hz : ((l.segs.length : Int) == 0) = false := by rw [beq_eq_false_iff_ne]; omega
  have HX := Box.mk hx
  have H := Box.mk h
  cases nw with
  | true =>
    rw [if_pos rfl] at hi2
    subst hi2
    obtain ⟨k1, k2⟩ := lall_last (s := s) (F := 1) (by omega) hx
    rw [← hn, ← hk] at k1 k2
    have K2 := Box.mk k2; have HN := Box.mk hn
    generalize s.ldrop 1 B l (l.segs.length - 1) = R at DN ⊢
    obtain ⟨R1, R2, e3⟩ := R
    dsimp only at DN ⊢
    obtain ⟨i0, hi0⟩ : ∃ i0, i0 = l.segs.length - 1 := ⟨_, rfl⟩
    have hw : IntKind.i64.wrap ((l.segs.length : Int) - 1) = (i0 : Int) := by rw [IntKind.wrap_i64]; omega
    have hil : (i0 : Int) < (l.segs.length : Int) := by omega
    rw [← hi0] at HX K2
    have HI0 := Box.mk hi0
    have hkn : (k : Int) ≤ (n : Int) := by omega
    have hncI : (n : Int) ≤ (c : Int) := by omega
    clear h hi hx hxm hk k2 hn hi0 DO hnc
    go_enter Tryz.func17, Tryz.ntmps17
    go_wp2_with fail
    refine SG.out.mono ?_
    rintro e w2 ⟨gs, cap, rfl, hrow, ow, hb⟩
    have OW2 := Box.mk ow; have B2 := Box.mk hb
    have c1 := cell_seg hrow rfl HX.out
    clear ow hb hrow SG
    go_wp2_with fail
    refine (RC.out _ OW2.out).mono ?_
    rintro e w3 ⟨⟨vx, rfl, hrow⟩, ow, hb⟩
    obtain ⟨ax, cx, rfl⟩ := own_slf hrow
    have OW3 := Box.mk ow; have B3 := Box.mk (B2.out.trans (hb.mono B2.out.size))
    clear ow hb hrow RC OW2 B2 c1
    go_wp2_with fail
    refine (DN.out _ OW3.out).mono ?_
    rintro e w4 ⟨rfl, ⟨v4, ow⟩, hu⟩
    have OW4 := Box.mk ow; have U4 := Box.mk (((Upd.of_below (S := fp g v p bb cb) B3.out)).trans hu)
    clear ow hu DN OW3 B3
    by_cases h140 : e3 = 140
    · have hI : (e3 == 140) = true := by rw [beq_iff_eq]; exact h140
      have HE := Box.mk h140
      clear h140
      go_wp2_with fail
      go_ret2
      exact ⟨⟨v4, OW4.out⟩, U4.out, .inl ⟨HE.out, rfl⟩⟩
    · have hI : (e3 == 140) = false := by rw [beq_eq_false_iff_ne]; exact h140
      have HE := Box.mk h140
      have hw2 : IntKind.i64.wrap ((n : Int) - (k : Int)) = ((n - k : Nat) : Int) := by rw [IntKind.wrap_i64]; omega
      have hle2 : ((n - k : Nat) : Int) ≤ (c : Int) := by omega
      clear h140
      go_wp2_with fail
      go_ret2
      exact ⟨⟨v4, OW4.out⟩, U4.out, .inr ⟨HE.out, 0, n - k, _, rfl, by rw [List.drop_zero, ← HI0.out]; exact K2.out, by omega⟩⟩
  | false =>
    rw [if_neg (by decide)] at hi2
    subst hi2
    obtain ⟨k1, k2⟩ := lall_first (s := s) (F := 1) hx
    rw [← hn, ← hk] at k1
    rw [← hk] at k2
    have K2 := Box.mk k2; have HN := Box.mk hn
    generalize s.ldrop 1 B l 0 = R at DO ⊢
    obtain ⟨R1, R2, e3⟩ := R
    dsimp only at DO ⊢
    have hil : (0 : Int) < (l.segs.length : Int) := by omega
    have hkn : (k : Int) ≤ (n : Int) := by omega
    have hncI : (n : Int) ≤ (c : Int) := by omega
    clear h hi hx hxm hk k2 hn DN
    go_enter Tryz.func17, Tryz.ntmps17
    go_wp2_with fail
    refine SG.out.mono ?_
    rintro e w2 ⟨gs, cap, rfl, hrow, ow, hb⟩
    have OW2 := Box.mk ow; have B2 := Box.mk hb
    have c1 := cell_seg hrow rfl HX.out
    clear ow hb hrow SG
    go_wp2_with fail
    refine (RC.out _ OW2.out).mono ?_
    rintro e w3 ⟨⟨vx, rfl, hrow⟩, ow, hb⟩
    obtain ⟨ax, cx, rfl⟩ := own_slf hrow
    have OW3 := Box.mk ow; have B3 := Box.mk (B2.out.trans (hb.mono B2.out.size))
    clear ow hb hrow RC OW2 B2 c1
    go_wp2_with fail
    refine (DO.out _ OW3.out).mono ?_
    rintro e w4 ⟨rfl, ⟨v4, ow⟩, hu⟩
    have OW4 := Box.mk ow; have U4 := Box.mk (((Upd.of_below (S := fp g v p bb cb) B3.out)).trans hu)
    clear ow hu DO OW3 B3
    by_cases h140 : e3 = 140
    · have hI : (e3 == 140) = true := by rw [beq_iff_eq]; exact h140
      have HE := Box.mk h140
      clear h140
      go_wp2_with fail
      go_ret2
      exact ⟨⟨v4, OW4.out⟩, U4.out, .inl ⟨HE.out, rfl⟩⟩
    · have hI : (e3 == 140) = false := by rw [beq_eq_false_iff_ne]; exact h140
      have HE := Box.mk h140
      by_cases hck : c = k
      · subst hck
        have hz0 : n - c = 0 := by omega
        have HZ := Box.mk hz0
        have hnk : n = c := by omega
        clear h140
        go_wp2_with fail
        go_ret2
        exact ⟨⟨v4, OW4.out⟩, U4.out, .inr ⟨HE.out, 0, 0, _, rfl, by rw [K2.out, List.take_zero, List.drop_eq_nil_of_le (by rw [← HN.out]; omega)], by omega⟩⟩
      · have hckI : ¬ (c : Int) = (k : Int) := by omega
        clear h140
        go_wp2_with fail
        go_ret2
        exact ⟨⟨v4, OW4.out⟩, U4.out, .inr ⟨HE.out, k, n - k, _, rfl, by rw [K2.out, List.take_of_length_le (by rw [List.length_drop, ← HN.out]; omega)], by omega⟩⟩
end Go.Proofs.YtjednaendedpdaaGreat
namespace Go.Proofs.YtjednaendedpdaaGreat
set_option maxRecDepth 100000
set_option linter.unusedVariables false
open Go Go.RowKit

set_option maxHeartbeats 1000000 in
theorem sameo_any (va vb : Value) (x y : List ByteArray) (hx : x.length ≤ 100000) (hy : y.length ≤ 100000) (w : World) (ga ca gb ob cb : Nat) (ha : va = .slice (some ⟨ga, 0, none⟩) x.length ca) (hb : vb = .slice (some ⟨gb, ob, none⟩) y.length cb) (h1 : ∀ j u, x[j]? = some u → w.cell? ⟨ga, j, none⟩ = some (.string u)) (h2 : ∀ j u, y[j]? = some u → w.cell? ⟨gb, ob + j, none⟩ = some (.string u)) :
    Calls Tryz.prog 23 #[va, vb] w fun e w' => e = .returned (.bool (decide (x = y))) ∧ ∃ n, w' = w.drewN n := by
  subst ha hb
  by_cases hl : x.length = y.length
  · have hlI : ((x.length : Int) != (y.length : Int)) = false := by rw [bne_eq_false_iff_eq]; omega
    have HL := Box.mk hl
    clear hl
    go_enter Tryz.func23, Tryz.ntmps23
    go_wp2_with fail
    go_loopw [5] (fun i wr => ∃ j n : Nat, j ≤ x.length ∧ i = .int .i64 (j : Nat) ∧ wr = w.drewN n ∧ ∀ k, k < j → x[k]? = y[k]?) (fun i _ => x.length - (intOf i).toNat)
    case atStart => exact ⟨0, 0, by omega, rfl, rfl, fun k hk => by omega⟩
    case round =>
      obtain ⟨j, n, hj, rfl, rfl, hall⟩ := hrel
      have HA := Box.mk hall
      clear hall
      by_cases hlt : j < x.length
      · have hI : (j : Int) < (x.length : Int) := by omega
        have hI2 : (j : Int) < (y.length : Int) := by have := HL.out; omega
        obtain ⟨a, ha⟩ : ∃ a, x[j]? = some a := ⟨_, List.getElem?_eq_getElem hlt⟩
        obtain ⟨b, hb⟩ : ∃ b, y[j]? = some b := ⟨_, List.getElem?_eq_getElem (by have := HL.out; omega)⟩
        have c1 := h1 j a ha
        have c2 := h2 j b hb
        have HAB := Box.mk (And.intro ha hb); have HLT := Box.mk hlt
        clear h1 h2 ha hb hlt
        by_cases hab : a = b
        · have habI : (a.toList == b.toList) = true := by rw [beq_iff_eq, hab]
          have HE := Box.mk hab
          clear hab
          go_wp2_with fail
          go_quiet (fail)
          go_wp2_with fail
          exact ⟨⟨j + 1, _, HLT.out, by go_num, rfl, fun k hk => by
            rcases Nat.lt_succ_iff_lt_or_eq.1 hk with h | rfl
            · exact HA.out k h
            · rw [HAB.out.1, HAB.out.2, HE.out]⟩, by have := HLT.out; simp [intOf]; omega⟩
        · have habI : (a.toList == b.toList) = false := by rw [beq_eq_false_iff_ne]; exact fun h => hab (ba_ext (by rw [← ByteArray.toList_eq, ← ByteArray.toList_eq]; exact h))
          have HE : Box (x ≠ y) := ⟨fun e => by have := HAB.out; rw [e, this.2] at this; exact hab (Option.some.inj this.1).symm⟩
          clear hab
          go_wp2_with fail
          go_quiet (fail)
          go_wp2_with fail
          go_ret
          exact ⟨by rw [decide_eq_false HE.out]; rfl, n + nq, by simp⟩
      · have hI : ¬ (j : Int) < (x.length : Int) := by omega
        have HE : Box (x = y) := ⟨List.ext_getElem? fun k => by
          rcases Nat.lt_or_ge k x.length with h | h
          · exact HA.out k (by omega)
          · have := HL.out
            rw [List.getElem?_eq_none h, List.getElem?_eq_none (by omega)]⟩
        clear hlt h1 h2
        go_wp2_with fail
        go_ret
        exact ⟨by rw [decide_eq_true HE.out]; rfl, _, rfl⟩
  · have hlI : ((x.length : Int) != (y.length : Int)) = true := by rw [bne_iff_ne]; omega
    have HE : Box (x ≠ y) := ⟨fun e => hl (by rw [e])⟩
    clear hl h1 h2
    go_enter Tryz.func23, Tryz.ntmps23
    go_wp2_with fail
    go_ret
    exact ⟨by rw [decide_eq_false HE.out]; rfl, 0, rfl⟩
end Go.Proofs.YtjednaendedpdaaGreat
namespace Go.Proofs.YtjednaendedpdaaGreat
set_option maxRecDepth 100000
set_option linter.unusedVariables false
open Go Go.RowKit

section
variable {P : Program} {W : World} {S : List Nat} {T : (World → Prop) → List Nat → Act → Prop} {L : List (Oper × Kd)} {F : World → Prop} {N : List Nat} {a : Act} {o : Oper}
theorem gm_appN (s x : Operand) (t : TypeId) (ho : o.op = .call { callee := .builtin .append, args := #[s, x], argTypes := #[t, t] })
    (base : Nat) (e : TypeId) (i : TypeInfo) (z : Value) (by_ : Nat) (ht : P.underlying t = some (.slice e)) (hi : P.info? e = some i) (hz : i.zero = some z) (hsize : i.size = 1) (hby : i.bytes = by_) (hzs : z.cells.size = 1) (hby2 : by_ ≤ 1000)
    (v : Value) (n : Nat) (xs : List Value) (hs : a.eval s = v) (ad : Addr) (m c : Nat) (news : List Value) (hx : a.eval x = .slice (some ad) m c) (hl : news.length = m * 1) (h1 : ∀ u ∈ news, u.oneCell' = true) (hn : n + m ≤ 1000000)
    (hN : ∀ k, v.ownBlock = some k → k ∈ N)
    (hF : ∀ w, GrS S W w → F w → w.ownsRow base e 1 v n xs ∧ base ≤ w.heap.size ∧ ∀ j u, news[j]? = some u → w.cell? (ad.add j) = some u)
    (h : ∀ v', wpG P W S T L (fun w => w.ownsRow base e 1 v' (n + m) (xs ++ news)) N (a.put o.dst v')) : wpG P W S T ((o, .cha) :: L) F N a := by
  intro w hw hFw
  obtain ⟨own, hB, hy⟩ := hF w hw hFw
  have hb2 : (n + m) * by_ ≤ 140737488355328 := Nat.le_trans (Nat.mul_le_mul hn hby2) (by decide)
  obtain ⟨v', w', r1, r2, r3, r4⟩ := run_append_own (P := P) w base t o.type e i z 1 by_ ht hi hz hsize hby hzs (by decide) v n xs own ad m c news hl hy h1 (by unfold maxLen; omega) hb2 hB
  refine .inr (.inr ⟨v', w', ?_, ?_, _, [], ?_, r2, (fun _ hb => by cases hb), h v'⟩)
  · simp [execOp, ho, resolve, invoke, builtin, hs, hx, r1, Result.andThen]
  · refine ⟨v.ownBlock.toList, fun d hd => hN d (by rw [Option.mem_toList] at hd; exact hd), ⟨r3.os, r3.tape, r3.output, r3.size, fun k hk hn => r3.block k hk fun e => hn (List.mem_append_right _ (by rw [← e]; simp))⟩⟩
  · exact fun w1 w2 hg ho => own_below ho hg
/-- A slice with nothing in it is made. -/
theorem gm_zero {ty e : TypeId} (ho : o.op = .buildSlice ty 0 #[]) (hr : ∀ w, (Instr.buildSlice ty 0 #[]).run P w = .ok (.slice (some ⟨w.heap.size, 0, none⟩) 0 0) (w.alloc (.cells #[] e)))
    (h : ∀ b, W.heap.size ≤ b → wpG P W S T L (fun w => w.ownsRow W.heap.size e 1 (.slice (some ⟨b, 0, none⟩) 0 0) 0 [] ∧ W.heap.size ≤ w.heap.size) ([b] ++ N) (a.put o.dst (.slice (some ⟨b, 0, none⟩) 0 0))) : wpG P W S T ((o, .cha) :: L) F N a :=
  gm_val fun w hw hFw => ⟨_, _, by
    unfold execOp
    simp only [ho, Sem.run_bind, List.map_toArray, List.map_nil, hr, Result.andThen_ok, Sem.run_pure], Gr.alloc _ _, _, [w.heap.size], (fun w1 w2 hg hh => ⟨own_below hh.1 hg, Nat.le_trans hh.2 hg.size⟩), ⟨World.ownsRow_lit (base := W.heap.size) (size := 1) (e := e) w #[] 0 hw.size (by unfold maxLen; omega) rfl, Nat.le_trans hw.size (by simp)⟩, fun b hb => by simp at hb; subst hb; simp, h _ hw.size⟩
end
end Go.Proofs.YtjednaendedpdaaGreat
