/- Manifest: the answers of fixed's calls, plainly. Manifest: Check of nothing. Manifest: the document's Same. Regions that draw their order and hold operations under guards: as the mixed walk, where each guard is decided on the way. Nothing of the program. Manifest: the statements' fixed. Arguments that are structs: read field by field; what came in reads behind the call as before it. -/
import Derived.Test.YtafhncpaoolljaaM03
import Derived.Test.YtafhncpaoolljaaM04
import Derived.Test.YtafhncpaoolljaaM02
import Derived.Lib.ConvBytes
import Derived.Test.YtafhncpaoolljaaM01
import Derived.Deep.Slices
import Derived.Deep.Fields
import Derived.ChangeSame
import Derived.ProofKit
import Derived.OpenShut
import Derived.ShutString
import Derived.ChangeOld
import Derived.Carry
namespace Go.Proofs.Ytafhncpaoolljaa
set_option maxRecDepth 100000
set_option linter.unusedVariables false
open Go Go.RowKit

/-- fixed's sum. -/
def x0M : SM := ⟨⟨#[97]⟩, ⟨(List.replicate 32 (0 : UInt8)).toArray⟩⟩
theorem x0_may : x0M.May := ⟨rfl, by decide, by decide, by decide⟩
theorem x0_once1 : onceM [x0M] = true := rfl
theorem x0_once2 : onceM [x0M, x0M] = false := by unfold onceM; simp
theorem all_x0 (l : List SM) (h : ∀ x ∈ l, x = x0M) : ∀ x ∈ l, x.May := fun x hx => (h x hx) ▸ x0_may
theorem printM_x1 : printM 220 221 [x0M] = (textM [x0M], 0) := by
  unfold printM
  rw [if_neg (by simp), if_neg (by rw [(mays_iff _).2 (all_x0 _ (by simp))]; decide), if_neg (by rw [x0_once1]; decide)]
theorem printM_x2 : printM 220 221 [x0M, x0M] = ([], 221) := by
  unfold printM
  rw [if_neg (by simp), if_neg (by rw [(mays_iff _).2 (all_x0 _ (by simp))]; decide), if_pos x0_once2]
theorem prV_x1 : prV [x0M] = .tuple #[.string ⟨(textM [x0M]).toArray⟩, .int .i64 0] := by unfold prV; rw [printM_x1]
theorem prV_x2 : prV [x0M, x0M] = .tuple #[.string ⟨#[]⟩, .int .i64 221] := by unfold prV; rw [printM_x2]
theorem parse_x1 : parseM 220 221 (textM [x0M]) = ([x0M], 0) := print_parse (by decide) (by decide) printM_x1
theorem parse_x2 : parseM 220 221 (textM [x0M] ++ textM [x0M]) = ([], 221) := by
  have e : textM [x0M] ++ textM [x0M] = textM [x0M, x0M] := by unfold textM; simp
  rw [e]
  unfold parseM
  rw [linesM_text _ (all_x0 _ (by simp)) _ (Nat.lt_succ_self _)]
  dsimp only
  rw [printM_x2]; rfl
theorem parse_x0 : parseM 220 221 [] = ([], 220) := by
  rw [parseM_eq, lns_nil]
  dsimp only
  rw [printM_none]; rfl
theorem text_x : (textM [x0M]).length = 68 ∧ (textM [x0M]).drop 63 = [48, 32, 32, 97, 10] := by decide
theorem find_x : fndV [x0M] ⟨#[98]⟩ = .tuple #[.string ⟨#[]⟩, .int .i64 222] ∧ fndV [x0M] ⟨#[97]⟩ = .tuple #[.string x0M.sum, .int .i64 0] := by
  refine ⟨?_, ?_⟩
  · unfold fndV findM
    rw [List.find?_cons_of_neg (by decide)]; rfl
  · unfold fndV findM
    rw [List.find?_cons_of_pos (by decide)]
end Go.Proofs.Ytafhncpaoolljaa
namespace Go.Proofs.Ytafhncpaoolljaa
set_option maxRecDepth 100000
set_option linter.unusedVariables false
open Go Go.RowKit

theorem verify_empty (a b : ByteArray) (w : World) : Calls Try.prog 27 #[.string a, .string b, .string ⟨#[]⟩] w fun e w' => e = .returned (.bool false) ∧ w = w' := by
  go_enter Try.func27, Try.ntmps27
  go_wp2_with fail
  go_ret
  exact ⟨rfl, rfl⟩
theorem check_empty (a b : ByteArray) (w : World) : Calls Try.prog 20 #[.string a, .string b, .string ⟨#[]⟩] w fun e w' => e = .returned (.int .i64 223) ∧ w = w' := by
  go_enter Try.func20, Try.ntmps20
  go_wp2_with fail
  refine (verify_empty a b _).mono ?_
  rintro e w1 ⟨rfl, rfl⟩
  go_wp2_with fail
  go_ret
  exact ⟨rfl, rfl⟩
end Go.Proofs.Ytafhncpaoolljaa
namespace Go.Proofs.Ytafhncpaoolljaa
set_option maxRecDepth 100000
set_option linter.unusedVariables false
open Go Go.RowKit

theorem eq_two (a b c d : ByteArray) (w : World) : (Op.equalIn 10000 33 (.agg #[.string a, .string b]) (.agg #[.string c, .string d])).run Try.prog w = .ok (a.toList == c.toList && b.toList == d.toList) w := by
  have h1 := run_equalIn_string (P := Try.prog) w 9998 9 a c Try.underlying9
  have h2 := run_equalIn_string (P := Try.prog) w 9998 9 b d Try.underlying9
  have P : ∀ (a b : ByteArray), (part 9 #[.string a, .string b] 0).run Try.prog w = .ok (.string a) w ∧ (part 9 #[.string a, .string b] 1).run Try.prog w = .ok (.string b) w := fun _ _ => ⟨by kernel_rfl, by kernel_rfl⟩
  obtain ⟨p0, p1⟩ := P a b
  obtain ⟨q0, q1⟩ := P c d
  rw [show 10000 = 9999 + 1 from rfl, run_equalIn_agg w 9999 33 _ _ (by unfold Program.fieldsOf; rw [Try.underlying33]) (by kernel_rfl)]
  unfold Program.fieldsOf
  rw [Try.underlying33]
  simp only [Op.eqFields]
  clear P
  generalize (a.toList == c.toList) = x at *
  generalize (b.toList == d.toList) = y at *
  cases x <;> cases y <;> simp [Sem.run_bind, p0, p1, q0, q1, h1, h2]
theorem eq_sm (x y : SM) (w : World) : (Op.equalIn 10000 33 (.agg #[.string x.name, .string x.sum]) (.agg #[.string y.name, .string y.sum])).run Try.prog w = .ok (decide (x = y)) w := by
  rw [eq_two, ba_eq, ba_eq]
  congr 1
  rw [Bool.eq_iff_iff, Bool.and_eq_true, decide_eq_true_iff, decide_eq_true_iff, decide_eq_true_iff, SM.eq_iff]
theorem list_ext_at {l m : List SM} (hl : l.length = m.length) (h : ∀ i : Nat, i < l.length → l[i]? = m[i]?) : l = m := by
  apply List.ext_getElem?
  intro i
  by_cases hi : i < l.length
  · exact h i hi
  · rw [List.getElem?_eq_none (by omega), List.getElem?_eq_none (by omega)]
set_option maxHeartbeats 2000000 in
theorem same_any (l r : List SM) (v u : Value) (w : World) (hS : SumsS w v l) (hR : SumsS w u r) : Calls Try.prog 14 #[v, u] w fun e w' => e = .returned (.bool (decide (l = r))) ∧ Below w.heap.size w w' := by
  obtain ⟨ao, cap, rfl, hlen, _, hcells⟩ := hS
  obtain ⟨bo, cbp, rfl, hlen2, _, hcells2⟩ := hR
  unfold maxLen at hlen hlen2
  obtain ⟨V, hV⟩ : ∃ V, V = decide (l = r) := ⟨_, rfl⟩
  rw [← hV]
  have HC := Box.mk hcells; have HC2 := Box.mk hcells2; have HV := Box.mk hV
  clear hcells hcells2 hV
  by_cases hl : l.length = r.length
  · have e1 : ((l.length : Int) != (r.length : Int)) = false := by rw [bne_eq_false_iff_eq]; omega
    have e2 : ((l.length : Int) == (r.length : Int)) = true := by rw [beq_iff_eq]; omega
    have HL := Box.mk hl
    clear hl
    go_enter Try.func14, Try.ntmps14
    go_wp2_with fail
    clear e1 e2
    go_loopw [5] (fun i wr => ∃ j : Nat, j ≤ l.length ∧ i = .int .i64 (j : Int) ∧ (∀ k, k < j → l[k]? = r[k]?) ∧ Below w.heap.size w wr) (fun i _ => l.length - (intOf i).toNat)
    case atStart => exact ⟨0, Nat.zero_le _, rfl, (fun k h => by omega), Below.refl _ _⟩
    case round =>
      obtain ⟨j, hj, rfl, hf, hb⟩ := hrel
      have HF := Box.mk hf; have HB := Box.mk hb
      clear hf hb
      by_cases hlt : j < l.length
      · have hltI : (j : Int) < (l.length : Int) := by omega
        have hltJ : (j : Int) < (r.length : Int) := by have := HL.out; omega
        obtain ⟨x, hx⟩ : ∃ s, l[j]? = some s := ⟨_, List.getElem?_eq_getElem hlt⟩
        obtain ⟨y, hy⟩ : ∃ s, r[j]? = some s := ⟨_, List.getElem?_eq_getElem (by have := HL.out; omega)⟩
        obtain ⟨a, rfl, HO⟩ := HC.out j x hx
        obtain ⟨b, rfl, HP⟩ := HC2.out j y hy
        obtain ⟨q0, q1⟩ := (HO.below HB.out HO.lt).flat
        obtain ⟨p0, p1⟩ := (HP.below HB.out HP.lt).flat
        have HXY := Box.mk (And.intro hx hy)
        clear HO HP hx hy
        by_cases he : x = y
        · have EQ := fun w => (eq_sm x y w).trans (by rw [decide_eq_true he])
          have NX : Box (∀ k, k < j + 1 → l[k]? = r[k]?) := ⟨fun k hk => by
            by_cases h : k = j
            · subst h; rw [HXY.out.1, HXY.out.2, he]
            · exact HF.out k (by omega)⟩
          clear he
          go_upto_region 6 with (fail)
          go_region
          all_goals
            go_wp2_with fail
            exact ⟨⟨j + 1, hlt, by go_num, NX.out, HB.out.drew⟩, by simp [intOf]; omega⟩
        · have EQ := fun w => (eq_sm x y w).trans (by rw [decide_eq_false he])
          have HN : Box (V = false) := ⟨by
            rw [HV.out, decide_eq_false_iff_not]; intro h
            apply he
            have h1 := HXY.out.1; have h2 := HXY.out.2
            rw [h, h2] at h1
            exact (Option.some.inj h1).symm⟩
          clear he HV
          go_upto_region 6 with (fail)
          go_region
          all_goals
            go_wp2_with fail
            go_ret
            rw [HN.out]
            exact ⟨rfl, HB.out.drew⟩
      · have hltI : ¬ (j : Int) < (l.length : Int) := by omega
        have HN : Box (V = true) := ⟨by
          rw [HV.out, decide_eq_true_iff]
          exact list_ext_at HL.out (fun i hi => HF.out i (by omega))⟩
        clear HV
        go_wp2_with fail
        go_ret
        rw [HN.out]
        exact ⟨rfl, HB.out⟩
  · have e1 : ((l.length : Int) != (r.length : Int)) = true := by rw [bne_iff_ne]; omega
    have e2 : ((l.length : Int) == (r.length : Int)) = false := by rw [beq_eq_false_iff_ne]; omega
    have HN : Box (V = false) := ⟨by rw [HV.out, decide_eq_false_iff_not]; intro h; exact hl (by rw [h])⟩
    clear hl HV
    go_enter Try.func14, Try.ntmps14
    go_wp2_with fail
    go_ret
    rw [HN.out]
    exact ⟨rfl, Below.refl _ _⟩
end Go.Proofs.Ytafhncpaoolljaa
namespace Go.Proofs.Ytafhncpaoolljaa
set_option maxRecDepth 100000
set_option linter.unusedVariables false
open Go Go.RowKit
namespace Gd
section
variable {P : Program} {W : World} {S : List Nat} {ops : Array Oper}

/-- Is the operation wanted, by what has come out so far? -/
def want (ops : Array Oper) (o : Oper) (a : Act) : Bool := Region.wanted o (yielded ops a.tmps)
def yieldsW (P : Program) (W : World) (S : List Nat) (ops : Array Oper) (o : Oper) (a : Act) (v : Value) : Prop := (want ops o a = true ∧ yieldsG P W S o a v) ∨ (want ops o a = false ∧ v = undef)
def makesW (P : Program) (W : World) (S : List Nat) (ops : Array Oper) (o : Oper) (a : Act) (X : Obj) : Prop := want ops o a = true ∧ makesG P W S o a X
def stepsW (P : Program) (S : List Nat) (ops : Array Oper) (o : Oper) (a : Act) (w : World) (R : Value → World → Prop) : Prop := (want ops o a = true ∧ steps P S o a w R) ∨ (want ops o a = false ∧ R undef w)
theorem stepsW.mono {o : Oper} {a : Act} {w : World} {R R' : Value → World → Prop} (h : stepsW P S ops o a w R) (hr : ∀ v w', R v w' → R' v w') : stepsW P S ops o a w R' :=
  h.imp (fun h => ⟨h.1, h.2.mono hr⟩) (fun h => ⟨h.1, hr _ _ h.2⟩)
theorem stepsW.some {o : Oper} {a : Act} {w : World} {R : Value → World → Prop} (h : stepsW P S ops o a w R) : ∃ v w', R v w' :=
  h.elim (fun h => h.2.some) (fun h => ⟨_, _, h.2⟩)
theorem want_i {i j : Oper} (h : Apt ops j i) (a : Act) (u : Value) : want ops i (a.put j.dst u) = want ops i a := wanted_put i a j.dst u (Oper.apart_spec h.ap).1
theorem want_j {i j : Oper} (h : Apt ops j i) (a : Act) (u : Value) : want ops j (a.put i.dst u) = want ops j a := wanted_put j a i.dst u (Oper.apart_spec h.ap).2.2
theorem y_i {i j : Oper} (h : Apt ops j i) (a : Act) (u v : Value) : yieldsW P W S ops i (a.put j.dst u) v = yieldsW P W S ops i a v := by unfold yieldsW yieldsG; rw [want_i h, h.exec_i]
theorem y_j {i j : Oper} (h : Apt ops j i) (a : Act) (u v : Value) : yieldsW P W S ops j (a.put i.dst u) v = yieldsW P W S ops j a v := by unfold yieldsW yieldsG; rw [want_j h, h.exec_j]
theorem m_i {i j : Oper} (h : Apt ops j i) (a : Act) (u : Value) (X : Obj) : makesW P W S ops i (a.put j.dst u) X = makesW P W S ops i a X := by unfold makesW makesG; rw [want_i h, h.exec_i]
theorem m_j {i j : Oper} (h : Apt ops j i) (a : Act) (u : Value) (X : Obj) : makesW P W S ops j (a.put i.dst u) X = makesW P W S ops j a X := by unfold makesW makesG; rw [want_j h, h.exec_j]
theorem s_i {i j : Oper} (h : Apt ops j i) (a : Act) (u : Value) (w : World) (R : Value → World → Prop) : stepsW P S ops i (a.put j.dst u) w R = stepsW P S ops i a w R := by unfold stepsW steps; rw [want_i h, h.exec_i]
theorem s_j {i j : Oper} (h : Apt ops j i) (a : Act) (u : Value) (w : World) (R : Value → World → Prop) : stepsW P S ops j (a.put i.dst u) w R = stepsW P S ops j a w R := by unfold stepsW steps; rw [want_j h, h.exec_j]
def wpW (P : Program) (W : World) (S : List Nat) (ops : Array Oper) (T : (World → Prop) → List Nat → Act → Prop) : List (Oper × Kd) → (World → Prop) → List Nat → Act → Prop
  | [], F, N, a => T F N a
  | (o, .flo) :: L, F, N, a => ∃ v, yieldsW P W S ops o a v ∧ wpW P W S ops T L F N (a.put o.dst v)
  | (o, .new X) :: L, F, N, a => makesW P W S ops o a X ∧ ∀ b, W.heap.size ≤ b → b ∉ N → wpW P W S ops T L (fun w => F w ∧ w.heap[b]? = some X) (b :: N) (a.put o.dst (.pointer (some ⟨b, 0, none⟩)))
  | (o, .cha) :: L, F, N, a => ∀ w, GrS S W w → F w → stepsW P S ops o a w (fun v w' => GrD S N w w' ∧ ∃ F' N', Stb F' ∧ F' w' ∧ (∀ b ∈ N', w.heap.size ≤ b ∧ b < w'.heap.size) ∧ wpW P W S ops T L F' (N' ++ N) (a.put o.dst v))

theorem wpW_sub {P : Program} {W : World} {S : List Nat} {ops : Array Oper} {T : (World → Prop) → List Nat → Act → Prop} (hT : ∀ F N N' a, (∀ b, b ∈ N → b ∈ N') → T F N a → T F N' a) : ∀ (L : List (Oper × Kd)) (F : World → Prop) (N N' : List Nat) (a : Act), (∀ b, b ∈ N → b ∈ N') → wpW P W S ops T L F N a → wpW P W S ops T L F N' a
  | [], F, N, N', a, h, hg => hT F N N' a h hg
  | (o, .flo) :: L, F, N, N', a, h, ⟨v, hv, hg⟩ => ⟨v, hv, wpW_sub hT L F N N' _ h hg⟩
  | (o, .new X) :: L, F, N, N', a, h, ⟨hm, hg⟩ => ⟨hm, fun b hb hn => wpW_sub hT L _ (b :: N) (b :: N') _ (fun c hc => by
      rcases List.mem_cons.1 hc with h' | h'
      · exact h' ▸ List.mem_cons_self
      · exact List.mem_cons_of_mem _ (h c h')) (hg b hb (fun h' => hn (h b h')))⟩
  | (o, .cha) :: L, F, N, N', a, h, hg => fun w hw hF => by
    refine (hg w hw hF).mono fun v w' ⟨hgr, F', M, hs, hF', hl, h'⟩ => ⟨hgr.sub h, F', M, hs, hF', hl, wpW_sub hT L F' (M ++ N) (M ++ N') _ (fun b hb => ?_) h'⟩
    rcases List.mem_append.1 hb with h' | h'
    · exact List.mem_append_left _ h'
    · exact List.mem_append_right _ (h b h')
variable {T : (World → Prop) → List Nat → Act → Prop} {oi : Oper}

theorem ex_flo {B : List (Oper × Kd)} : ∀ (A : List (Oper × Kd)), (∀ p ∈ A, Apt ops p.1 oi) → ∀ (F : World → Prop) (N : List Nat) (a : Act) (w : World), Known W S F N w → wpW P W S ops T (A ++ (oi, .flo) :: B) F N a → ∃ v, yieldsW P W S ops oi a v
  | [], _, _, _, _, _, _, ⟨v, h, _⟩ => ⟨v, h⟩
  | (oj, .flo) :: A, hA, F, N, a, w, hk, ⟨u, _, h⟩ => by
    obtain ⟨v, hv⟩ := ex_flo A (fun p hp => hA p (List.mem_cons_of_mem _ hp)) F N _ w hk h
    exact ⟨v, by rwa [y_i (hA _ List.mem_cons_self)] at hv⟩
  | (oj, .new X) :: A, hA, F, N, a, w, hk, ⟨_, h⟩ => by
    obtain ⟨v, hv⟩ := ex_flo A (fun p hp => hA p (List.mem_cons_of_mem _ hp)) _ _ _ (w.alloc X) (hk.new X) (h w.heap.size hk.gr.size hk.fresh)
    exact ⟨v, by rwa [y_i (hA _ List.mem_cons_self)] at hv⟩
  | (oj, .cha) :: A, hA, F, N, a, w, hk, h => by
    obtain ⟨u, w', hg, F', M, hs', hF', hl, h'⟩ := (h w hk.gr hk.fa).some
    obtain ⟨v, hv⟩ := ex_flo A (fun p hp => hA p (List.mem_cons_of_mem _ hp)) F' _ _ w' (hk.call hg hs' hF' hl) h'
    exact ⟨v, by rwa [y_i (hA _ List.mem_cons_self)] at hv⟩

theorem rem_flo {v : Value} {B : List (Oper × Kd)} : ∀ (A : List (Oper × Kd)), (∀ p ∈ A, Apt ops p.1 oi) → ∀ (F : World → Prop) (N : List Nat) (a : Act), yieldsW P W S ops oi a v → wpW P W S ops T (A ++ (oi, .flo) :: B) F N a → wpW P W S ops T (A ++ B) F N (a.put oi.dst v)
  | [], _, _, _, a, hv, ⟨v', h', hg⟩ => by
    have e : v = v' := by
      rcases hv with ⟨g1, hv⟩ | ⟨g1, hv⟩ <;> rcases h' with ⟨g2, h'⟩ | ⟨g2, h'⟩ <;> rw [g1] at g2
      · rcases hv W (GrS.refl _ _) with h1 | ⟨h1, e1⟩ <;> rcases h' W (GrS.refl _ _) with h2 | ⟨h2, e2⟩ <;> rw [h1] at h2
        · injection h2 with h3; injection h3
        · injection h2 with h3; cases h3
        · injection h2 with h3; cases h3
        · rw [e1, e2]
      · cases g2
      · cases g2
      · rw [hv, h']
    subst e
    exact hg
  | (oj, .flo) :: A, hA, F, N, a, hv, ⟨u, hu, h⟩ => by
    have hj := hA _ List.mem_cons_self
    refine ⟨u, by rw [y_j hj]; exact hu, ?_⟩
    rw [← hj.comm]
    exact rem_flo A (fun p hp => hA p (List.mem_cons_of_mem _ hp)) F N _ (by rw [y_i hj]; exact hv) h
  | (oj, .new X) :: A, hA, F, N, a, hv, ⟨hm, h⟩ => by
    have hj := hA _ List.mem_cons_self
    refine ⟨by rw [m_j hj]; exact hm, fun b hb hn => ?_⟩
    rw [← hj.comm]
    exact rem_flo A (fun p hp => hA p (List.mem_cons_of_mem _ hp)) _ _ _ (by rw [y_i hj]; exact hv) (h b hb hn)
  | (oj, .cha) :: A, hA, F, N, a, hv, h => by
    have hj := hA _ List.mem_cons_self
    intro w hw hF
    have h0 := h w hw hF
    rw [← s_j hj a v] at h0
    refine h0.mono fun u w' ⟨hg, F', M, hs', hF', hl, h'⟩ => ⟨hg, F', M, hs', hF', hl, ?_⟩
    rw [← hj.comm]
    exact rem_flo A (fun p hp => hA p (List.mem_cons_of_mem _ hp)) F' _ _ (by rw [y_i hj]; exact hv) h'

theorem ex_new {X : Obj} {B : List (Oper × Kd)} : ∀ (A : List (Oper × Kd)), (∀ p ∈ A, Apt ops p.1 oi) → ∀ (F : World → Prop) (N : List Nat) (a : Act) (w : World), Known W S F N w → wpW P W S ops T (A ++ (oi, .new X) :: B) F N a → makesW P W S ops oi a X
  | [], _, _, _, _, _, _, ⟨h, _⟩ => h
  | (oj, .flo) :: A, hA, F, N, a, w, hk, ⟨u, _, h⟩ => by
    have hv := ex_new A (fun p hp => hA p (List.mem_cons_of_mem _ hp)) F N _ w hk h
    rwa [m_i (hA _ List.mem_cons_self)] at hv
  | (oj, .new Y) :: A, hA, F, N, a, w, hk, ⟨_, h⟩ => by
    have hv := ex_new A (fun p hp => hA p (List.mem_cons_of_mem _ hp)) _ _ _ (w.alloc Y) (hk.new Y) (h w.heap.size hk.gr.size hk.fresh)
    rwa [m_i (hA _ List.mem_cons_self)] at hv
  | (oj, .cha) :: A, hA, F, N, a, w, hk, h => by
    obtain ⟨u, w', hg, F', M, hs', hF', hl, h'⟩ := (h w hk.gr hk.fa).some
    have hv := ex_new A (fun p hp => hA p (List.mem_cons_of_mem _ hp)) F' _ _ w' (hk.call hg hs' hF' hl) h'
    rwa [m_i (hA _ List.mem_cons_self)] at hv

theorem rem_new (hT : ∀ F N N' a, (∀ b, b ∈ N → b ∈ N') → T F N a → T F N' a) (hS : ∀ k ∈ S, k < W.heap.size) {X : Obj} {b : Nat} (hb : W.heap.size ≤ b) {B : List (Oper × Kd)} : ∀ (A : List (Oper × Kd)), (∀ p ∈ A, Apt ops p.1 oi) → ∀ (F : World → Prop) (N : List Nat) (a : Act), b ∉ N → wpW P W S ops T (A ++ (oi, .new X) :: B) F N a →
    wpW P W S ops T (A ++ B) (fun w => F w ∧ w.heap[b]? = some X) (b :: N) (a.put oi.dst (.pointer (some ⟨b, 0, none⟩)))
  | [], _, _, _, a, hn, ⟨_, h⟩ => h b hb hn
  | (oj, .flo) :: A, hA, F, N, a, hn, ⟨u, hu, h⟩ => by
    have hj := hA _ List.mem_cons_self
    refine ⟨u, by rw [y_j hj]; exact hu, ?_⟩
    rw [← hj.comm]
    exact rem_new hT hS hb A (fun p hp => hA p (List.mem_cons_of_mem _ hp)) F N _ hn h
  | (oj, .new Y) :: A, hA, F, N, a, hn, ⟨hm, h⟩ => by
    have hj := hA _ List.mem_cons_self
    refine ⟨by rw [m_j hj]; exact hm, fun b' hb' hn' => ?_⟩
    rw [← hj.comm, and_swap3]
    have hne : b' ≠ b := fun h => hn' (h ▸ List.mem_cons_self)
    refine wpW_sub hT _ _ (b :: b' :: N) (b' :: b :: N) _ (fun c hc => ?_) (rem_new hT hS hb A (fun p hp => hA p (List.mem_cons_of_mem _ hp)) _ (b' :: N) _ (fun h => ?_) (h b' hb' (fun h => hn' (List.mem_cons_of_mem _ h))))
    · simp only [List.mem_cons] at hc ⊢; rcases hc with h | h | h <;> simp [h]
    · rcases List.mem_cons.1 h with h' | h'
      · exact hne h'.symm
      · exact hn h'
  | (oj, .cha) :: A, hA, F, N, a, hn, h => by
    have hj := hA _ List.mem_cons_self
    intro w hw hF
    have h0 := h w hw hF.1
    rw [← s_j hj a (.pointer (some ⟨b, 0, none⟩))] at h0
    refine h0.mono fun u w' ⟨hg, F', M, hs', hF', hl, h'⟩ =>
      ⟨hg.sub (fun _ h => List.mem_cons_of_mem _ h), fun x => F' x ∧ x.heap[b]? = some X, M, hs'.new b X, ⟨hF', hg.at (fun h => Nat.lt_irrefl _ (Nat.lt_of_lt_of_le (hS b h) hb)) hn hF.2⟩, hl, ?_⟩
    rw [← hj.comm]
    have hlt := Gr.blt hF.2
    refine wpW_sub hT _ _ (b :: (M ++ N)) (M ++ b :: N) _ (fun c hc => ?_) (rem_new hT hS hb A (fun p hp => hA p (List.mem_cons_of_mem _ hp)) F' (M ++ N) _ (fun h => ?_) h')
    · simp only [List.mem_cons, List.mem_append] at hc ⊢; rcases hc with h | h | h <;> simp [h]
    · rcases List.mem_append.1 h with h' | h'
      · have := hl b h'; omega
      · exact hn h'

theorem rem_cha {B : List (Oper × Kd)} : ∀ (A : List (Oper × Kd)), (∀ p ∈ A, Apt ops p.1 oi ∧ p.2.isFlo = true) → ∀ (F : World → Prop) (N : List Nat) (a : Act), wpW P W S ops T (A ++ (oi, .cha) :: B) F N a →
    ∀ w, GrS S W w → F w → stepsW P S ops oi a w (fun v w' => GrD S N w w' ∧ ∃ F' M, Stb F' ∧ F' w' ∧ (∀ b ∈ M, w.heap.size ≤ b ∧ b < w'.heap.size) ∧ wpW P W S ops T (A ++ B) F' (M ++ N) (a.put oi.dst v))
  | [], _, _, _, _, h, w, hw, hF => h w hw hF
  | (oj, .flo) :: A, hA, F, N, a, ⟨u, hu, h⟩, w, hw, hF => by
    have hj := (hA _ List.mem_cons_self).1
    have h0 := rem_cha A (fun p hp => hA p (List.mem_cons_of_mem _ hp)) F N _ h w hw hF
    rw [s_i hj a u] at h0
    refine h0.mono fun v w' ⟨hg, F', M, hs', hF', hl, h'⟩ => ⟨hg, F', M, hs', hF', hl, u, by rw [y_j hj]; exact hu, ?_⟩
    rw [← hj.comm]
    exact h'
  | (oj, .new X) :: A, hA, _, _, _, _, _, _, _ => by have := (hA _ List.mem_cons_self).2; cases this
  | (oj, .cha) :: A, hA, _, _, _, _, _, _, _ => by have := (hA _ List.mem_cons_self).2; cases this

/-- For each operation which ones it waits for, as bits. -/
def maskOf (R : Array Nat) (o : Oper) : Nat := o.after.toList.foldl (fun m e => if Region.binds .any e = true then (m ||| 2 ^ e.on) ||| R.getD e.on 0 else m) 0
def masks : List Oper → Array Nat → Array Nat
  | [], R => R
  | o :: l, R => masks l (R.push (maskOf R o))
theorem fold_bits (R : Array Nat) (j : Nat) : ∀ (l : List Edge) (m : Nat), (l.foldl (fun m e => if Region.binds .any e = true then (m ||| 2 ^ e.on) ||| R.getD e.on 0 else m) m).testBit j = true →
    m.testBit j = true ∨ ∃ e ∈ l, Region.binds .any e = true ∧ (e.on = j ∨ (R.getD e.on 0).testBit j = true)
  | [], m, h => .inl h
  | e :: l, m, h => by
    rw [List.foldl_cons] at h
    rcases fold_bits R j l _ h with h | ⟨e', he', hb, h⟩
    · by_cases hb : Region.binds .any e = true
      · rw [if_pos hb, Nat.testBit_or, Nat.testBit_or, Bool.or_eq_true, Bool.or_eq_true, Nat.testBit_two_pow, decide_eq_true_iff] at h
        rcases h with (h | h) | h
        · exact .inl h
        · exact .inr ⟨e, List.mem_cons_self, hb, .inl h⟩
        · exact .inr ⟨e, List.mem_cons_self, hb, .inr h⟩
      · rw [if_neg hb] at h; exact .inl h
    · exact .inr ⟨e', List.mem_cons_of_mem _ he', hb, h⟩
def Wt (ops : Array Oper) (i j : Nat) : Prop := ∃ f, waits ops f i j = true
theorem mask_wt {ops : Array Oper} {R : Array Nat} (hR : ∀ i j, (R.getD i 0).testBit j = true → Wt ops i j) {k : Nat} {o : Oper} (ho : ops[k]? = some o) {j : Nat} (h : (maskOf R o).testBit j = true) : Wt ops k j := by
  rcases fold_bits R j _ 0 h with h | ⟨e, he, hb, h⟩
  · simp at h
  · have hmem : e ∈ o.after := by simpa using he
    rcases h with h | h
    · refine ⟨1, ?_⟩
      simp only [waits, ho, Option.map_some, Option.getD_some, Bool.or_eq_true]
      rw [← Array.any_toList, ← Array.any_toList]
      exact .inl (List.any_eq_true.2 ⟨e, he, by simp [hb, h]⟩)
    · obtain ⟨f, hf⟩ := hR _ _ h
      refine ⟨f + 1, ?_⟩
      simp only [waits, ho, Option.map_some, Option.getD_some, Bool.or_eq_true]
      rw [← Array.any_toList, ← Array.any_toList]
      exact .inr (List.any_eq_true.2 ⟨e, he, by simp [hb, hf]⟩)
theorem masks_wt {ops : Array Oper} : ∀ (l : List Oper) (R : Array Nat), (∀ i j, (R.getD i 0).testBit j = true → Wt ops i j) → (∀ k, ops[R.size + k]? = l[k]?) → ∀ i j, ((masks l R).getD i 0).testBit j = true → Wt ops i j
  | [], R, hR, _ => hR
  | o :: l, R, hR, hl => masks_wt l (R.push (maskOf R o)) (fun i j h => by
      have ho : ops[R.size]? = some o := by have := hl 0; simpa using this
      by_cases hi : i = R.size
      · subst hi
        have e : (R.push (maskOf R o)).getD R.size 0 = maskOf R o := by simp
        rw [e] at h
        exact mask_wt hR ho h
      · have e : (R.push (maskOf R o)).getD i 0 = R.getD i 0 := by
          simp only [Array.getD_eq_getD_getElem?, Array.getElem?_push, if_neg hi]
        rw [e] at h
        exact hR i j h) (fun k => by
      have := hl (k + 1)
      rw [Array.size_push, Nat.add_assoc, Nat.add_comm 1 k]
      simpa using this)
theorem wt_of {ops : Array Oper} {i j : Nat} (h : ((masks ops.toList #[]).getD i 0).testBit j = true) : Wt ops i j :=
  masks_wt ops.toList #[] (fun i j h => by simp at h) (fun k => by simp) i j h
def mixR (ops : Array Oper) (R : Array Nat) (n : Nat) (kd : Nat → Kd) : Bool :=
  Region.noSelect ops && decide (n < ops.size) && ((List.range ops.size).all fun t => decide (t < n) || (List.range n).all fun i => (R.getD t 0).testBit i) &&
  (List.range n).all fun i => match ops[i]? with
    | none => false
    | some oi => oi.after.all (fun e => !Region.binds .any e || decide (e.on < i)) &&
      (List.range i).all fun j => match ops[j]? with
        | none => false
        | some oj => ((R.getD i 0).testBit j || oj.apart ops oi) && (!(kd i).isCha || (kd j).isFlo || (R.getD i 0).testBit j)
def mixW (ops : Array Oper) (n : Nat) (kd : Nat → Kd) : Bool := mixR ops (masks ops.toList #[]) n kd

end

section
variable {P : Program} {ops : Array Oper} {W : World} {S : List Nat} {Q : Exit → Act → World → Prop} {T : (World → Prop) → List Nat → Act → Prop}

theorem anyG (hS : ∀ k ∈ S, k < W.heap.size) {n g : Nat} {kd : Nat → Kd} (hB : mixW ops n kd = true) (hg : n + g = ops.size) (pr : Nat → Oper × Kd) (hpr : ∀ i o, ops[i]? = some o → pr i = (o, kd i))
    (hTN : ∀ F N N' a, (∀ b, b ∈ N → b ∈ N') → T F N a → T F N' a)
    (hT : ∀ F N a w, T F N a → GrS S W w → F w → wpAny P .any ops Q g (canonL n g) a w) :
    ∀ (m : Nat) (L : List Nat) (listed : Array Bool) (a : Act) (w : World) (F : World → Prop) (N : List Nat), L.length = m → HeadInv .any ops n listed → (∀ i, i ∈ L ↔ i < n ∧ listed.getD i true = false) → L.Pairwise (· < ·) →
      Known W S F N w → wpW P W S ops T (L.map pr) F N a → wpAny P .any ops Q (m + g) listed a w := by
  simp only [mixW, mixR, Bool.and_eq_true, decide_eq_true_eq] at hB
  obtain ⟨⟨⟨hsel, hn⟩, htail⟩, hall⟩ := hB
  have hget : ∀ i, i < n → ∃ oi, ops[i]? = some oi ∧ (∀ e ∈ oi.after, Region.binds .any e = true → e.on < i) ∧
      ∀ j, j < i → ∀ oj, ops[j]? = some oj → (((masks ops.toList #[]).getD i 0).testBit j || oj.apart ops oi) = true ∧ (!(kd i).isCha || (kd j).isFlo || ((masks ops.toList #[]).getD i 0).testBit j) = true := by
    intro i hi
    have h1 := List.all_eq_true.1 hall i (List.mem_range.2 hi)
    cases ho : ops[i]? with
    | none => simp [ho] at h1
    | some oi =>
      simp only [ho, Bool.and_eq_true] at h1
      obtain ⟨h3, h4⟩ := h1
      refine ⟨oi, rfl, fun e he hb => ?_, fun j hj oj hoj => ?_⟩
      · have := Array.all_eq_true_iff_forall_mem.1 h3 e he
        simp only [hb, Bool.not_true, Bool.false_or, decide_eq_true_eq] at this
        exact this
      · have h5 := List.all_eq_true.1 h4 j (List.mem_range.2 hj)
        simp only [hoj, Bool.and_eq_true] at h5
        exact h5
  intro m
  induction m with
  | zero =>
    intro L listed a w F N hm inv hL _ hkn h
    have hnil : L = [] := List.length_eq_zero_iff.1 hm
    subst hnil
    rw [Nat.zero_add]
    have : listed = canonL n (ops.size - n) := by
      refine Array.ext (by rw [inv.size]; simp [canonL]; omega) fun i h1 h2 => ?_
      rw [inv.size] at h1
      by_cases hi : i < n
      · have h3 : ¬ listed.getD i true = false := fun h => by have := (hL i).2 ⟨hi, h⟩; cases this
        have h4 := getD_tf h3 (by rw [inv.size]; exact h1)
        simp [inv.size, h1] at h4
        simp [canonL, hi, h4]
      · have h4 := inv.tail i (by omega) h1
        simp [inv.size, h1] at h4
        simp [canonL, Array.getElem_append, h4]; omega
    rw [this, show ops.size - n = g by omega]
    exact hT F N a w h hkn.gr hkn.fa
  | succ m ih =>
    intro L listed a w F N hm inv hL hp hkn h
    have hready : ∃ i0, i0 ∈ Region.ready .any ops listed ∧ i0 ∈ L := by
      cases L with
      | nil => simp at hm
      | cons i0 L =>
        have h0 := (hL i0).1 List.mem_cons_self
        obtain ⟨oi, ho, ha, _⟩ := hget i0 h0.1
        refine ⟨i0, mem_ready.2 ⟨h0.2, oi, ho, fun e he hb => ?_⟩, List.mem_cons_self⟩
        have hlt := ha e he hb
        refine getD_tf (fun hf => ?_) (by rw [inv.size]; omega)
        have hmem := (hL e.on).2 ⟨by omega, hf⟩
        rcases List.mem_cons.1 hmem with h' | h'
        · omega
        · have := (List.pairwise_cons.1 hp).1 _ h'; omega
    obtain ⟨i0, hr0, hm0⟩ := hready
    rw [show m + 1 + g = (m + g) + 1 by omega]
    refine ⟨fun h => (by rw [h] at hr0; cases hr0), fun i hi => ?_⟩
    have hin : i < n := by
      rcases Nat.lt_or_ge i n with h' | h'
      · exact h'
      · obtain ⟨_, ot, hot, hdt⟩ := mem_ready.1 hi
        have h1 := List.all_eq_true.1 htail i (List.mem_range.2 (Array.getElem?_eq_some_iff.1 hot).1)
        simp only [Bool.or_eq_true, decide_eq_true_eq] at h1
        have h2 := List.all_eq_true.1 (h1.resolve_left (by omega)) i0 (List.mem_range.2 ((hL i0).1 hm0).1)
        obtain ⟨f3, h2⟩ := wt_of h2
        have h3 := waits_listed inv.closed f3 i ot hot hdt h2
        rw [getD_both ((hL i0).1 hm0).2] at h3
        cases h3
    obtain ⟨hiun, oi', hoi', hdone⟩ := mem_ready.1 hi
    obtain ⟨oi, hoi, _, hrel⟩ := hget i hin
    obtain rfl : oi' = oi := Option.some.inj (hoi'.symm.trans hoi)
    have hiL : i ∈ L := (hL i).2 ⟨hin, hiun⟩
    obtain ⟨A, B, rfl⟩ := List.append_of_mem hiL
    have hpair := List.pairwise_append.1 hp
    have hAp : ∀ p ∈ A.map pr, Apt ops p.1 oi' ∧ ((kd i).isCha = true → p.2.isFlo = true) := by
      intro p hpm
      obtain ⟨j, hj, rfl⟩ := List.mem_map.1 hpm
      have hji : j < i := hpair.2.2 j hj i List.mem_cons_self
      have hjL := (hL j).1 (List.mem_append_left _ hj)
      obtain ⟨oj, hoj, _⟩ := hget j hjL.1
      have hno : ((masks ops.toList #[]).getD i 0).testBit j = false := by
        cases hq : ((masks ops.toList #[]).getD i 0).testBit j with
        | false => rfl
        | true =>
          obtain ⟨f3, hq⟩ := wt_of hq
          have := waits_listed inv.closed f3 i oi' hoi hdone hq
          rw [getD_both hjL.2] at this
          cases this
      have h5 := hrel j hji oj hoj
      rw [hno, Bool.false_or, Bool.or_false] at h5
      rw [hpr j oj hoj]
      refine ⟨⟨h5.1, fun cs b => Region.noSelect_spec hsel j oj cs b hoj, fun cs b => Region.noSelect_spec hsel i oi' cs b hoi⟩, fun hc => ?_⟩
      have := h5.2
      rw [hc] at this
      simpa using this
    have hL' : ∀ k, k ∈ A ++ B ↔ k < n ∧ (listed.setIfInBounds i true).getD k true = false := by
      intro k
      by_cases hki : k = i
      · subst hki
        have hlt : k < listed.size := by rw [inv.size]; omega
        have hnA : k ∉ A := fun hk => by have := hpair.2.2 k hk k List.mem_cons_self; omega
        have hnB : k ∉ B := fun hk => by have := (List.pairwise_cons.1 hpair.2.1).1 k hk; omega
        simp [hnA, hnB, hlt]
      · rw [getD_set_ne true (Ne.symm hki), ← hL k]
        simp [hki]
    have hp' : (A ++ B).Pairwise (· < ·) := List.pairwise_append.2 ⟨hpair.1, (List.pairwise_cons.1 hpair.2.1).2, fun x hx y hy => hpair.2.2 x hx y (List.mem_cons_of_mem _ hy)⟩
    have hm' : (A ++ B).length = m := by simp only [List.length_append, List.length_cons] at hm ⊢; omega
    have inv' := inv.set hi hin
    have go : ∀ (a' : Act) (w' : World) (F' : World → Prop) (N' : List Nat), Known W S F' N' w' → wpW P W S ops T (A.map pr ++ B.map pr) F' N' a' → wpAny P .any ops Q (m + g) (listed.setIfInBounds i true) a' w' :=
      fun a' w' F' N' h1 h4 => ih (A ++ B) _ a' w' F' N' hm' inv' hL' hp' h1 (by rw [List.map_append]; exact h4)
    rw [List.map_append, List.map_cons, hpr i oi' hoi] at h
    have put_ok : ∀ v w', (want ops oi' a = true → oi'.wp P a w (wpAny P .any ops Q (m + g) (listed.setIfInBounds i true)) Q) → (want ops oi' a = false → wpAny P .any ops Q (m + g) (listed.setIfInBounds i true) (a.put oi'.dst v) w') → v = undef → w' = w → wpOp P ops Q i (wpAny P .any ops Q (m + g) (listed.setIfInBounds i true)) a w := by
      intro v w' h1 h2 hv hw'
      subst hv; subst hw'
      unfold wpOp
      simp only [hoi]
      cases hq : Region.wanted oi' (yielded ops a.tmps) with
      | true => rw [if_pos rfl]; exact .inl (h1 hq)
      | false => rw [if_neg (by decide)]; exact h2 hq
    refine put_ok undef w ?_ ?_ rfl rfl
    · intro hq
      cases hk : kd i with
      | flo =>
        rw [hk] at h
        obtain ⟨v, hv⟩ := ex_flo (A.map pr) (fun p hp => (hAp p hp).1) F N a w hkn h
        have h2 := rem_flo (A.map pr) (fun p hp => (hAp p hp).1) F N a hv h
        unfold Oper.wp
        rcases hv with ⟨_, hv⟩ | ⟨e, _⟩
        · rcases hv w hkn.gr with he | ⟨he, rfl⟩
          · rw [he]; exact go _ w F N hkn h2
          · rw [he]; exact go _ w F N hkn h2
        · rw [hq] at e; cases e
      | new X =>
        rw [hk] at h
        have hv := ex_new (A.map pr) (fun p hp => (hAp p hp).1) F N a w hkn h
        have h2 := rem_new hTN hS hkn.gr.size (A.map pr) (fun p hp => (hAp p hp).1) F N a hkn.fresh h
        unfold Oper.wp
        rw [hv.2 w hkn.gr]
        exact go _ (w.alloc X) _ _ (hkn.new X) h2
      | cha =>
        rw [hk] at h hAp
        rcases rem_cha (A.map pr) (fun p hp => ⟨(hAp p hp).1, (hAp p hp).2 rfl⟩) F N a h w hkn.gr hkn.fa with ⟨_, hs⟩ | ⟨e, _⟩
        · exact hs.wp fun v w' ⟨hgr, F', M, hs', hF', hl, h'⟩ => go _ w' F' _ (hkn.call hgr hs' hF' hl) h'
        · rw [hq] at e; cases e
    · intro hq
      cases hk : kd i with
      | flo =>
        rw [hk] at h
        obtain ⟨v, hv⟩ := ex_flo (A.map pr) (fun p hp => (hAp p hp).1) F N a w hkn h
        have h2 := rem_flo (A.map pr) (fun p hp => (hAp p hp).1) F N a hv h
        rcases hv with ⟨e, _⟩ | ⟨_, rfl⟩
        · rw [hq] at e; cases e
        · exact go _ w F N hkn h2
      | new X =>
        rw [hk] at h
        have hv := ex_new (A.map pr) (fun p hp => (hAp p hp).1) F N a w hkn h
        rw [hv.1] at hq; cases hq
      | cha =>
        rw [hk] at h hAp
        rcases rem_cha (A.map pr) (fun p hp => ⟨(hAp p hp).1, (hAp p hp).2 rfl⟩) F N a h w hkn.gr hkn.fa with ⟨e, _⟩ | ⟨_, hgr, F', M, hs', hF', hl, h'⟩
        · rw [hq] at e; cases e
        · exact go _ w F' _ (hkn.call hgr hs' hF' hl) h'

theorem region_of_tail {id : Nat} {a : Act} {w : World} {F0 : World → Prop} (hF0s : Stb F0) (hF0 : F0 w.drew) (hS : ∀ k ∈ S, k < w.heap.size) {l : List Oper} {T : (World → Prop) → Act → Prop} (n : Nat) (ks : List Kd) (hm : P.follows .mixedOrders = true) (hB : mixW l.toArray n (fun i => ks.getD i .flo) = true) (hk : ks.length = n)
    (hT : ∀ F a w', T F a → GrS S w.drew w' → F w' → wpAny P .any l.toArray Q (l.length - n) (canonL n (l.length - n)) a w')
    (h : wpW P w.drew S l.toArray (fun F _ a' => T F a') ((l.take n).zip ks) F0 [] a) : (Code.region id l.toArray true).wp P Q a w := by
  have hn : n < l.length := by
    simp only [mixW, mixR, Bool.and_eq_true, decide_eq_true_eq] at hB
    simpa using hB.1.1.2
  refine wp_region_any hm ?_
  have inv0 : HeadInv .any l.toArray n (Array.replicate l.toArray.size false) :=
    ⟨by simp, fun j oj _ hl => (by rw [getD_replicate_false] at hl; cases hl), fun t _ ht => getD_in (by simpa using ht) (getD_replicate_false _ _)⟩
  have hzip : (l.take n).zip ks = (List.range n).map (fun i => (l.getD i default, ks.getD i .flo)) := by
    refine List.ext_getElem (by simp [hk]; omega) fun i h1 h2 => ?_
    have hi : i < n := by simpa using h2
    simp [List.getD, List.getElem?_eq_getElem (show i < l.length by omega), List.getElem?_eq_getElem (show i < ks.length by omega)]
  rw [hzip] at h
  have := anyG (P := P) (Q := Q) (W := w.drew) (S := S) hS (g := l.length - n) hB (by simp; omega) (fun i => (l.getD i default, ks.getD i .flo))
    (fun i o ho => by simp only [List.getElem?_toArray] at ho; simp [List.getD, ho])
    (fun F N N' a' _ h => h)
    (fun F N a' w' hT' hw hF => hT F a' w' hT' hw hF)
    n (List.range n) (Array.replicate l.toArray.size false) a w.drew F0 [] (by simp) inv0
    (fun i => by
      rw [List.mem_range]
      exact ⟨fun hi => ⟨hi, getD_in (by simp; omega) (getD_replicate_false _ _)⟩, fun h => h.1⟩)
    List.pairwise_lt_range ⟨hF0s, GrS.refl _ _, hF0, (fun b hb => by cases hb), fun b hb => by cases hb⟩ h
  rw [show n + (l.length - n) = l.toArray.size by simp; omega] at this
  exact this
/-- **ONE WALK IN THE ORDER OF THE TEXT**: n operations, each of its kind; then the tail, which keeps its order. -/
theorem wp_region_mix {id : Nat} {a : Act} {w : World} {l : List Oper} (n : Nat) (ks : List Kd) (hm : P.follows .mixedOrders = true) (hB : (mixW l.toArray n (fun i => ks.getD i .flo) && Region.seqB .any l.toArray (l.length - n) n (canonL n (l.length - n))) = true) (hk : ks.length = n)
    (h : wpW P w.drew [] l.toArray (fun F _ a' => ∀ w', Gr w.drew w' → F w' → wpList P l.toArray Q (l.drop n) a' w') ((l.take n).zip ks) (fun _ => True) [] a) : (Code.region id l.toArray true).wp P Q a w := by
  rw [Bool.and_eq_true] at hB
  refine region_of_tail (S := []) (F0 := fun _ => True) Stb.tt trivial (fun _ h => by cases h) (T := fun F a' => ∀ w', Gr w.drew w' → F w' → wpList P l.toArray Q (l.drop n) a' w') n ks hm hB.1 hk (fun F a' w' hT hw hF => ?_) h
  have hdl : (l.drop n).length = l.length - n := by simp
  have := wpAny_of_seq (md := .any) (Q' := Q) (l.drop n) n (canonL n (l.length - n)) a' w' (fun j => by simp [List.getElem?_drop]) (by rw [hdl]; exact hB.2) (hT w' hw.toGr hF)
  rwa [hdl] at this
/-- .. where a store into a block of S may stand among the operations. -/
theorem wp_region_mixS {id : Nat} {a : Act} {w : World} {l : List Oper} (S : List Nat) (F0 : World → Prop) (hF0s : Stb F0) (hF0 : F0 w.drew) (hS : ∀ k ∈ S, k < w.heap.size) (n : Nat) (ks : List Kd) (hm : P.follows .mixedOrders = true) (hB : (mixW l.toArray n (fun i => ks.getD i .flo) && Region.seqB .any l.toArray (l.length - n) n (canonL n (l.length - n))) = true) (hk : ks.length = n)
    (h : wpW P w.drew S l.toArray (fun F _ a' => ∀ w', GrS S w.drew w' → F w' → wpList P l.toArray Q (l.drop n) a' w') ((l.take n).zip ks) F0 [] a) : (Code.region id l.toArray true).wp P Q a w := by
  rw [Bool.and_eq_true] at hB
  refine region_of_tail (S := S) (F0 := F0) hF0s hF0 hS (T := fun F a' => ∀ w', GrS S w.drew w' → F w' → wpList P l.toArray Q (l.drop n) a' w') n ks hm hB.1 hk (fun F a' w' hT hw hF => ?_) h
  have hdl : (l.drop n).length = l.length - n := by simp
  have := wpAny_of_seq (md := .any) (Q' := Q) (l.drop n) n (canonL n (l.length - n)) a' w' (fun j => by simp [List.getElem?_drop]) (by rw [hdl]; exact hB.2) (hT w' hw hF)
  rwa [hdl] at this
end
section
variable {P : Program} {W : World} {S : List Nat} {ops : Array Oper} {T : (World → Prop) → List Nat → Act → Prop} {L : List (Oper × Kd)} {F : World → Prop} {N : List Nat} {a : Act} {o : Oper} {k : Kd}
/-- A step that is wanted: as in the walk without guards, with what follows as its tail. -/
theorem yes (hw : want ops o a = true) (h : wpG P W S (fun F N a => wpW P W S ops T L F N a) [(o, k)] F N a) : wpW P W S ops T ((o, k) :: L) F N a := by
  cases k with
  | flo =>
    obtain ⟨v, h1, h2⟩ := h
    exact ⟨v, .inl ⟨hw, h1⟩, h2⟩
  | new X => exact ⟨⟨hw, h.1⟩, h.2⟩
  | cha => exact fun w hg hF => .inl ⟨hw, h w hg hF⟩
/-- Steps that are not. -/
theorem no (hw : want ops o a = false) (h : wpW P W S ops T L F N (a.put o.dst undef)) : wpW P W S ops T ((o, .flo) :: L) F N a := ⟨undef, .inr ⟨hw, rfl⟩, h⟩
theorem noC (hw : want ops o a = false) (hF : Stb F) (h : wpW P W S ops T L F N (a.put o.dst undef)) : wpW P W S ops T ((o, .cha) :: L) F N a :=
  fun w _ hFw => .inr ⟨hw, (GrS.refl S w).d, F, [], hF, hFw, (fun _ hb => by cases hb), h⟩
theorem nil (h : T F N a) : wpW P W S ops T [] F N a := h
end
end Gd
end Go.Proofs.Ytafhncpaoolljaa
namespace Go.Proofs.Ytafhncpaoolljaa
set_option maxRecDepth 100000
set_option linter.unusedVariables false
open Go Go.RowKit

theorem vinfo_u8 : (Try.prog.info? 5).map (fun i => (i.zero, i.size, i.bytes)) = some (some (.int .u8 0), 1, 1) := by kernel_rfl
theorem vmade_one (z : Value) (hz : z.cells = #[z]) (m : Nat) : madeCells z.cells (m * 1) = Array.replicate m z := by
  rw [hz, Nat.mul_one]
  apply Array.ext
  · simp [madeCells]
  · intro i h1 h2
    simp [madeCells, Nat.mod_one]
theorem vmake_bytes (m : Nat) (x : Int) (hx : x = m) (hm : m ≤ 1000000) (L : List UInt8) (hL : L = List.replicate m 0) (w : World) :
    (Instr.makeSlice 37 (.int .i64 x) (.int .i64 x)).run Try.prog w = .ok (.slice (some ⟨w.heap.size, 0, none⟩) m m) (w.alloc (.cells (L.map byv).toArray 5)) := by
  subst hx
  obtain ⟨i0, hi, hz0, hz1, hz2⟩ := info_parts vinfo_u8
  have h := run_make (P := Try.prog) w 37 5 i0 (.int .u8 0) Try.underlying37 hi hz0 .i64 .i64 m m (by omega) (by omega) (by rw [hz2]; omega) (by omega)
  have e : Array.replicate m (Value.int .u8 0) = (L.map byv).toArray := by rw [hL, List.map_replicate, ← List.toArray_replicate]; rfl
  rw [h, hz1, Int.toNat_natCast, vmade_one _ rfl, e]
theorem vbytes_at (w : World) (b cap : Nat) (l : List UInt8) (n : Nat) (hn : l.length = n) (h : w.heap[b]? = some (.cells (l.map byv).toArray 5 (0, 0))) :
    (convert 37 9 (.slice (some ⟨b, 0, none⟩) n cap)).run Try.prog w = .ok (.string ⟨l.toArray⟩) w := by
  subst hn
  have hg : ∀ j u, l[j]? = some u → w.cell? ⟨b, 0 + j, none⟩ = some (.int .u8 (u.toNat : Int)) := fun j u hu => by
    rw [Nat.zero_add, cell_of_row _ _ _ _ _ _ h, List.getElem?_toArray, List.getElem?_map, hu]; rfl
  rw [run_convert_bytes_string w 37 9 5 _ _ _ Try.underlying37 Try.underlying5 Try.underlying9]
  have h := run_loadCells_list (P := Try.prog) (w := w) ⟨b, 0, none⟩ ((l.map fun u => (u.toNat : Int)).map (Value.int .u8)) (by
    intro j v hj
    have : (⟨b, 0, none⟩ : Addr).add j = ⟨b, 0 + j, none⟩ := by unfold Addr.add; split <;> simp_all
    rw [this]
    rw [List.getElem?_map, List.getElem?_map] at hj
    cases hl : l[j]? with
    | none => rw [hl] at hj; simp at hj
    | some u => rw [hl] at hj; simp at hj; subst hj; exact hg j u hl)
  rw [List.length_map, List.length_map] at h
  rw [run_bytesToString w _ _ _ _ h]
  have : ∀ (l : List UInt8) (acc : ByteArray), (l.map fun u => (u.toNat : Int)).foldl (fun r n => r.push (UInt8.ofNat n.toNat)) acc = ⟨(acc.data.toList ++ l).toArray⟩ := by
    intro l
    induction l with
    | nil => intro acc; simp
    | cons c l ih => intro acc; simp only [List.map_cons, List.foldl_cons]; rw [ih]; simp [ByteArray.push]
  rw [this]
  rfl
/-- A slice over a whole literal block of sums. -/
theorem sums_lit {w : World} {g cap : Nat} {cs : Array Value} (l : List SM) (h : w.heap[g]? = some (.cells cs 33 (0, 0))) (hc : cs.toList = smC l) (hl : l.length ≤ maxLen) (hs : ∀ x ∈ l, x.name.size ≤ maxLen ∧ x.sum.size ≤ maxLen) : SumsS w (.slice (some ⟨g, 0, none⟩) l.length cap) l := by
  refine ⟨some ⟨g, 0, none⟩, cap, rfl, hl, hs, fun i x hx => ⟨⟨g, 0, none⟩, rfl, ?_⟩⟩
  obtain ⟨c0, c1⟩ := smC_at l i x hx
  have ea : ∀ k, ((⟨g, 0, none⟩ : Addr).add k) = ⟨g, k, none⟩ := fun k => by unfold Addr.add; split <;> simp_all
  have at_ : ∀ k u, (smC l)[k]? = some u → w.cell? ⟨g, k, none⟩ = some u := fun k u hu => by
    rw [cell_of_row _ _ _ _ _ _ h, ← Array.getElem?_toList, hc]; exact hu
  refine ⟨by rw [ea, Nat.mul_comm]; exact at_ _ _ c0, ?_⟩
  rw [ea]
  show w.cell? ⟨g, i * 2 + 1, none⟩ = _
  rw [Nat.mul_comm]; exact at_ _ _ c1
section
variable {P : Program} {W : World} {S : List Nat} {T : (World → Prop) → List Nat → Act → Prop} {L : List (Oper × Kd)} {F : World → Prop} {N : List Nat} {a : Act} {o : Oper}
theorem gm_build1 {ty e : TypeId} (x : Operand) (ho : o.op = .buildSlice ty 1 #[(0, x)]) (u : Value) (cs : Array Value) (hx : a.eval x = u) (hr : ∀ w, (Instr.buildSlice ty 1 #[(0, u)]).run P w = .ok (.slice (some ⟨w.heap.size, 0, none⟩) 1 1) (w.alloc (.cells cs e))) (hF : Stb F)
    (h : ∀ b, W.heap.size ≤ b → wpG P W S T L (fun w => F w ∧ w.heap[b]? = some (.cells cs e (0, 0))) ([b] ++ N) (a.put o.dst (.slice (some ⟨b, 0, none⟩) 1 1))) : wpG P W S T ((o, .cha) :: L) F N a :=
  gm_val fun w hw hFw => ⟨_, _, by
    subst hx
    unfold execOp
    simp only [ho, Sem.run_bind, List.map_toArray, List.map_cons, List.map_nil, hr, Result.andThen_ok, Sem.run_pure], Gr.alloc _ _, _, [w.heap.size], hF.new _ _, ⟨hF _ _ (Gr.alloc _ _) hFw, heap_alloc_new _ _⟩, fun b hb => by simp at hb; subst hb; simp, h _ hw.size⟩
end
theorem beq_self_l (l : List UInt8) : (l == l) = true := by simp
set_option maxHeartbeats 8000000 in
theorem fixed_any (m : Int) (w : World) (hm : w.cell? ⟨0, 0, none⟩ = some (.int .i64 m)) : Calls Try.prog 11 #[] w fun e w' => e = .returned (.bool true) ∧ Below w.heap.size w w' := by
  obtain ⟨L0, hL0⟩ : ∃ L, L = List.replicate 32 (0 : UInt8) := ⟨_, rfl⟩
  have l0 : L0.length = 32 := by rw [hL0, List.length_replicate]
  obtain ⟨Z, hZ⟩ : ∃ Z : ByteArray, Z = ⟨L0.toArray⟩ := ⟨_, rfl⟩
  obtain ⟨X, hX⟩ : ∃ X, X = x0M := ⟨_, rfl⟩
  have HXN : Box (X.name = ⟨#[97]⟩) := ⟨by rw [hX]; rfl⟩
  have HXS : Box (X.sum = Z) := ⟨by rw [hX, hZ, hL0]; rfl⟩
  have hzz : (Z.toList == Z.toList) = true := beq_self_l _
  have HZS : Box (Z.size ≤ maxLen) := ⟨by rw [hZ]; show L0.toArray.size ≤ _; rw [List.size_toArray, l0]; decide⟩
  have hmk := fun w => vmake_bytes 32 32 rfl (by omega) L0 hL0 w
  have hcv : ∀ wx : World, (convert 37 9 (.slice (some ⟨wx.heap.size, 0, none⟩) 32 32)).run Try.prog (wx.alloc (.cells (L0.map byv).toArray 5)) = .ok (.string Z) (wx.alloc (.cells (L0.map byv).toArray 5)) := fun wx => by
    rw [hZ]; exact vbytes_at _ _ _ L0 32 l0 (heap_alloc_new _ _)
  obtain ⟨S, hS⟩ : ∃ S : ByteArray, S = ⟨(textM [X]).toArray⟩ := ⟨_, rfl⟩
  have hSl : S.data.toList = textM [X] := by rw [hS]
  have hSs : S.size = 68 := by rw [← ba_len, hSl, hX]; exact text_x.1
  have hSe : (S.extract 63 68).toList = [48, 32, 32, 97, 10] := by
    rw [ByteArray.toList_eq, ba_cutL, hSl, hX, text_x.2]; rfl
  have hSb : ((S.extract 63 68).toList == [48, 32, 32, 97, 10]) = true := by rw [hSe]; rfl
  have hx1 : (63 : Int) ≤ 68 := by decide
  have XB : Box (∀ l : List SM, (∀ y ∈ l, y = X) → ∀ y ∈ l, y.name.size ≤ maxLen ∧ y.sum.size ≤ maxLen) := ⟨fun l h y hy => by
    rw [h y hy, HXN.out, HXS.out]; exact ⟨by decide, HZS.out⟩⟩
  have P1 := Box.mk (fun v w h => print_any [X] v w h)
  have e1 : prV [X] = .tuple #[.string S, .int .i64 0] := by rw [hS, hX]; exact prV_x1
  rw [e1] at P1
  have P2 := Box.mk (fun v w h => print_any [X, X] v w h)
  have e2 : prV [X, X] = .tuple #[.string ⟨#[]⟩, .int .i64 221] := by rw [hX]; exact prV_x2
  rw [e2] at P2
  have PA := Box.mk (fun w h => parse_any S m (by rw [hSs]; omega) w h)
  have e3 : parseM 220 221 S.data.toList = ([X], 0) := by rw [hSl, hX]; exact parse_x1
  unfold ParV at PA
  rw [e3] at PA
  have PB := Box.mk (fun w h => parse_any (S ++ S) m (by rw [ByteArray.size_append, hSs]; omega) w h)
  have e4 : parseM 220 221 (S ++ S).data.toList = ([], 221) := by rw [ba_app, hSl, hX]; exact parse_x2
  unfold ParV at PB
  rw [e4] at PB
  have PC := Box.mk (fun w h => parse_any ⟨#[]⟩ m (by decide) w h)
  have e5 : parseM 220 221 (⟨#[]⟩ : ByteArray).data.toList = ([], 220) := parse_x0
  unfold ParV at PC
  rw [e5] at PC
  have F1 := Box.mk (fun v w h => find_any [X] ⟨#[98]⟩ v w h)
  have F2 := Box.mk (fun v w h => find_any [X] ⟨#[97]⟩ v w h)
  have e6 : fndV [X] ⟨#[98]⟩ = .tuple #[.string ⟨#[]⟩, .int .i64 222] := by rw [hX]; exact find_x.1
  have e7 : fndV [X] ⟨#[97]⟩ = .tuple #[.string Z, .int .i64 0] := by rw [← HXS.out, hX]; exact find_x.2
  rw [e6] at F1
  rw [e7] at F2
  have SA := Box.mk (fun v u w h k => same_any [X] [X] v u w h k)
  rw [decide_eq_true rfl] at SA
  obtain ⟨W1, hW1⟩ : ∃ W, W = w.alloc (.cells (L0.map byv).toArray 5) := ⟨_, rfl⟩
  obtain ⟨b1, hb1⟩ : ∃ z, z = w.heap.size + 1 := ⟨_, rfl⟩
  have hs1 : W1.heap.size = b1 := by rw [hW1, hb1]; simp
  obtain ⟨W2, hW2⟩ : ∃ W, W = W1.alloc (.cells #[.string ⟨#[97]⟩, .string Z] 33) := ⟨_, rfl⟩
  have R2 := Box.mk (show W2.heap[b1]? = some (.cells #[.string ⟨#[97]⟩, .string Z] 33 (0, 0)) by rw [hW2, ← hs1]; exact heap_alloc_new _ _)
  have B2 := Box.mk (show Below w.heap.size w W2 by rw [hW2, hW1]; exact ((Below.refl _ _).alloc (Nat.le_refl _) _).alloc (by simp) _)
  have KM := Box.mk (show ∀ wx, Below w.heap.size w wx → wx.cell? ⟨0, 0, none⟩ = some (.int .i64 m) from fun wx h => (h.cell (p := ⟨0, 0, none⟩) (World.block_lt_of_cell? w _ hm)).trans hm)
  have SL := Box.mk (show ∀ (W : World), SumsS (W.alloc (.cells #[.string ⟨#[97]⟩, .string Z] 33)) (.slice (some ⟨W.heap.size, 0, none⟩) 1 1) [X] from fun W => sums_lit [X] (heap_alloc_new _ _) (by unfold smC; rw [List.flatMap_cons, HXN.out, HXS.out]; rfl) (by simp [maxLen]) (XB.out _ (by simp)))
  have SL2 := Box.mk (show ∀ (W : World), SumsS (W.alloc (.cells #[.string ⟨#[97]⟩, .string Z, .string ⟨#[97]⟩, .string Z] 33)) (.slice (some ⟨W.heap.size, 0, none⟩) 2 2) [X, X] from fun W => sums_lit [X, X] (heap_alloc_new _ _) (by unfold smC; rw [List.flatMap_cons, List.flatMap_cons, HXN.out, HXS.out]; rfl) (by simp [maxLen]) (XB.out _ (by simp)))
  have HSS := Box.mk (And.intro hSs (And.intro hSe hSb))
  clear hm hX hSl hSe hSb hS e1 e2 e3 e4 e5 e6 e7 hL0 hZ l0 hSs
  go_enter Try.func11, Try.ntmps11
  go_upto_region 2 with (fail)
  rw [← hW1, ← hW2, ← hb1]
  clear hW1 hW2 hb1 hs1 hmk hcv
  obtain ⟨z0, z1⟩ := sm_cells (x := ⟨⟨#[97]⟩, Z⟩) R2.out
  go_wp2_with fail
  refine (P1.out _ _ (SL.out _)).mono ?_
  rintro e w3 ⟨rfl, hb⟩
  have B3 := Box.mk (B2.out.trans (((Below.refl _ _).alloc (Nat.le_refl _) (.cells #[.string ⟨#[97]⟩, .string Z] 33) |>.trans (hb.mono (by simp))).mono B2.out.size))
  have R3 := Box.mk ((hb.block b1 (by have := (Array.getElem?_eq_some_iff.1 R2.out).1; simp; omega)).trans ((heap_alloc_old _ _ (Array.getElem?_eq_some_iff.1 R2.out).1).trans R2.out))
  clear z0 z1 hb
  obtain ⟨z0, z1⟩ := sm_cells (x := ⟨⟨#[97]⟩, Z⟩) R3.out
  have SX := Box.mk SL2.out
  go_wp2_with fail
  refine (P2.out _ _ (SL2.out _)).mono ?_
  rintro e w4 ⟨rfl, hb⟩
  have B4 := Box.mk (B3.out.trans (((Below.refl _ _).alloc (Nat.le_refl _) (.cells #[.string ⟨#[97]⟩, .string Z, .string ⟨#[97]⟩, .string Z] 33) |>.trans (hb.mono (by simp))).mono B3.out.size))
  have R4 := Box.mk ((hb.block b1 (by have := (Array.getElem?_eq_some_iff.1 R3.out).1; simp; omega)).trans ((heap_alloc_old _ _ (Array.getElem?_eq_some_iff.1 R3.out).1).trans R3.out))
  clear z0 z1 hb P1 P2 B2 R2 B3 R3 SX SL2
  go_wp2_with fail
  refine (PA.out _ (KM.out _ B4.out)).mono ?_
  rintro e w5 ⟨hb, v, rfl, how, _⟩
  have B5 := Box.mk (B4.out.trans (hb.mono B4.out.size))
  have R5 := Box.mk ((hb.block b1 (Array.getElem?_eq_some_iff.1 R4.out).1).trans R4.out)
  have V5 := Box.mk (sums_of_own how (by simp [maxLen]) (XB.out _ (by simp)))
  clear hb how PA R4 B4
  have hSs := HSS.out.1
  go_wp2_with fail
  refine (PB.out _ (KM.out _ B5.out)).mono ?_
  rintro e w6 ⟨hb, v6, rfl, _, _⟩
  have B6 := Box.mk (B5.out.trans (hb.mono B5.out.size))
  have R6 := Box.mk ((hb.block b1 (Array.getElem?_eq_some_iff.1 R5.out).1).trans R5.out)
  have V6 := Box.mk (V5.out.below hb)
  clear hb PB R5 B5 V5
  go_wp2_with fail
  refine (PC.out _ (KM.out _ B6.out)).mono ?_
  rintro e w7 ⟨hb, v7, rfl, _, _⟩
  have B7 := Box.mk (B6.out.trans (hb.mono B6.out.size))
  have R7 := Box.mk ((hb.block b1 (Array.getElem?_eq_some_iff.1 R6.out).1).trans R6.out)
  have V7 := Box.mk (V6.out.below hb)
  clear hb PC R6 B6 V6
  go_wp2_with fail
  refine (F1.out _ _ V7.out).mono ?_
  rintro e w8 ⟨rfl, hb⟩
  have B8 := Box.mk (B7.out.trans (hb.mono B7.out.size))
  have R8 := Box.mk ((hb.block b1 (Array.getElem?_eq_some_iff.1 R7.out).1).trans R7.out)
  have V8 := Box.mk (V7.out.below hb)
  clear hb F1 R7 B7 V7
  go_wp2_with fail
  refine (F2.out _ _ V8.out).mono ?_
  rintro e w9 ⟨rfl, hb⟩
  have B9 := Box.mk (B8.out.trans (hb.mono B8.out.size))
  have R9 := Box.mk ((hb.block b1 (Array.getElem?_eq_some_iff.1 R8.out).1).trans R8.out)
  have V9 := Box.mk (V8.out.below hb)
  clear hb F2 R8 B8 V8
  obtain ⟨z0, z1⟩ := sm_cells (x := ⟨⟨#[97]⟩, Z⟩) R9.out
  have hSb := HSS.out.2.2
  go_wp2_with fail
  refine (SA.out _ _ _ (V9.out.below ((Below.refl _ _).alloc (Nat.le_refl _) _)) (SL.out _)).mono ?_
  rintro e w10 ⟨rfl, hb⟩
  have B10 := Box.mk (B9.out.trans (((Below.refl _ _).alloc (Nat.le_refl _) (.cells #[.string ⟨#[97]⟩, .string Z] 33) |>.trans (hb.mono (by simp))).mono B9.out.size))
  have R10 := Box.mk ((hb.block b1 (by have := (Array.getElem?_eq_some_iff.1 R9.out).1; simp; omega)).trans ((heap_alloc_old _ _ (Array.getElem?_eq_some_iff.1 R9.out).1).trans R9.out))
  clear z0 z1 hb SA V9 B9 R9
  obtain ⟨z0, z1⟩ := sm_cells (x := ⟨⟨#[97]⟩, Z⟩) R10.out
  go_wp2_with fail
  refine (check_empty ⟨#[]⟩ ⟨#[]⟩ _).mono ?_
  rintro e w11 ⟨rfl, rfl⟩
  go_wp2_with fail
  go_ret
  exact ⟨rfl, B10.out⟩
end Go.Proofs.Ytafhncpaoolljaa
namespace Go.Proofs.Ytafhncpaoolljaa
set_option maxRecDepth 100000
open Go Go.RowKit Go.ChangeShapes Go.WideShapes Go.Deep
set_option linter.unusedVariables false
section
variable {H : Type} {enc : TypeId × Value → H} {P : Program} {w : World} {base : Nat} {spare : Nat → Bool} {held : Bool}

/-- A field's cell has a reading at its type. -/
def Reads (enc : TypeId × Value → H) (P : Program) (w : World) (base : Nat) (spare : Nat → Bool) (held : Bool) (t : TypeId) (v : Value) : Prop :=
  ∃ y n, DataW.trod enc P w base spare held n t [v] = some y

theorem read_fields {t : TypeId} {fs : Array Field} {fuel : Nat} {cs : List Value} {x : DataW H × List MemPlace} (hs : P.underlying t = some (.struct fs)) (hone : oneCellFields P fs = true) (hC : P.cellsOf t = fs.size)
    (h : DataW.trod enc P w base spare held fuel t cs = some x) :
    cs.length = fs.size ∧ ∀ (j : Nat) (f : Field), fs[j]? = some f → ∃ v, cs[j]? = some v ∧ Reads enc P w base spare held f.type v := by
  obtain ⟨ys, n, _, _, hlen, hyl, hf⟩ := DataW.trod_struct hs h
  rw [hC] at hlen
  refine ⟨hlen, fun j f hj => ?_⟩
  obtain ⟨ho, hk⟩ := hone_of hone j f hj
  have hjl : j < fs.size := (Array.getElem?_eq_some_iff.1 hj).1
  have h1 := hf j f hj
  rw [ho, hk] at h1
  have e1 : (cs.drop j).take 1 = [cs[j]'(by omega)] := by
    rw [List.drop_eq_getElem_cons (by omega)]; rfl
  rw [e1] at h1
  exact ⟨cs[j]'(by omega), List.getElem?_eq_getElem (by omega), _, _, h1.trans (List.getElem?_eq_getElem (by omega : j < ys.length))⟩

theorem read_struct {r : Reach} {b0 : Nat} {t : TypeId} {fs : Array Field} {v : Value} {d : DataW H} {p : List MemPlace} (hs : P.underlying t = some (.struct fs)) (hone : oneCellFields P fs = true) (hC : P.cellsOf t = fs.size)
    (hv : Value.okWide P w r b0 t v) (h : DataW.Trod enc P w base spare held t v d p) :
    ∃ cs : Array Value, v = .agg cs ∧ cs.size = fs.size ∧ ∀ (j : Nat) (f : Field), fs[j]? = some f → ∃ c, cs[j]? = some c ∧ Reads enc P w base spare held f.type c := by
  obtain ⟨cs, rfl, hsz⟩ := okWide_struct hs hv
  obtain ⟨fuel, hf⟩ := h
  obtain ⟨hl, hr⟩ := read_fields hs hone hC hf
  refine ⟨cs, rfl, hsz.trans hC, fun j f hj => ?_⟩
  obtain ⟨c, hc, hy⟩ := hr j f hj
  exact ⟨c, by simpa [Value.cells] using hc, hy⟩

theorem Reads.int {t : TypeId} {k : IntKind} {v : Value} (ht : P.underlying t = some (.int k)) (h : Reads enc P w base spare held t v) : ∃ n, v = .int k n ∧ (Lit.int k n).wf = true := by
  obtain ⟨y, n, h⟩ := h
  obtain ⟨m, hm, _, hw⟩ := DataW.trod_int ht h
  simp at hm
  exact ⟨m, hm, hw⟩
theorem Reads.string {t : TypeId} {v : Value} (ht : P.underlying t = some .string) (h : Reads enc P w base spare held t v) : ∃ s, v = .string s ∧ s.size ≤ maxLen := by
  obtain ⟨y, n, h⟩ := h
  obtain ⟨m, hm, _, hw⟩ := DataW.trod_string ht h
  simp at hm
  exact ⟨m, hm, hw⟩
theorem Reads.bool {t : TypeId} {v : Value} (ht : P.underlying t = some .bool) (h : Reads enc P w base spare held t v) : ∃ b, v = .bool b := by
  obtain ⟨y, n, h⟩ := h
  obtain ⟨m, hm, _⟩ := DataW.trod_bool ht h
  simp at hm
  exact ⟨m, hm⟩
/-- A slice: nil, or its length, capacity, and what its elements' cells read. -/
theorem Reads.slice {t e : TypeId} {fs : Array Field} {v : Value} (ht : P.underlying t = some (.slice e)) (he : P.underlying e = some (.struct fs)) (hone : oneCellFields P fs = true) (hC : P.cellsOf e = fs.size)
    (h : Reads enc P w base spare held t v) :
    v = .slice none 0 0 ∨ ∃ (a : Addr) (len cap : Nat), v = .slice (some a) len cap ∧ base ≤ a.block ∧ len ≤ cap ∧ cap ≤ maxLen ∧
      ∀ i, i < len → ∀ (j : Nat) (f : Field), fs[j]? = some f → ∃ c, w.cell? (a.add (i * fs.size + j)) = some c ∧ Reads enc P w base spare held f.type c := by
  obtain ⟨y, n, h⟩ := h
  rcases open_slice ht h with ⟨hcs, _⟩ | ⟨a, len, cap, m, n, D, Pl, hcs, hb, hl, hm, hmm, hx, hi⟩
  · left; simpa using hcs
  · right
    simp at hcs
    refine ⟨a, len, cap, hcs, hb, hl, hm, fun i him j f hj => ?_⟩
    have hi' : i < m := by rw [hmm]; split <;> omega
    obtain ⟨cs', hc, ht'⟩ := hi i hi'
    obtain ⟨hlen, hf⟩ := read_fields he hone hC ht'
    obtain ⟨c, hcj, hr⟩ := hf j f hj
    obtain ⟨_, hcl, hat⟩ := World.cells?_some hc
    have hjl : j < fs.size := (Array.getElem?_eq_some_iff.1 hj).1
    refine ⟨c, ?_, hr⟩
    rw [← Go.Deep.add_add, hC] at *
    have := hat j (by omega)
    rw [this]; exact hcj
end
end Go.Proofs.Ytafhncpaoolljaa
