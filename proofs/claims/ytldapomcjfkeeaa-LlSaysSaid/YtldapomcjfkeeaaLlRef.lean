/-
  Ll of the reference.
-/
import Derived.Test.YtldapomcjfkeeaaLlMake
import Derived.Test.YtldapomcjfkeeaaFcAll
namespace Go.Proofs.Ytldapomcjfkeeaa
set_option linter.unusedVariables false
set_option linter.unusedSimpArgs false
open Go.ChangeShapes Go.WideShapes Go.ChangeAt Go.RowKit

namespace Ll
def ofN (x : Nat) : Int := x
theorem slE : ET Try.prog 45 35 1 24 := ET.mk' Try.underlying45 (z := .slice none 0 0) (by kernel_rfl) rfl (by decide)
/-- What stands in 'may'. -/
def ciOf : List Nat → List Int
  | [] => [-1]
  | a :: r => (a :: r).map ofN
theorem ci_len {n col : Nat} {c : List Nat} : (ciOf c).length = (clOf n col c).length + 1 := by cases c <;> simp [ciOf, clOf]
theorem ci_head {c : List Nat} : (ciOf c).getD 0 0 = atOf c := by cases c <;> simp [ciOf, atOf, ofN]
theorem cl_get {n col j : Nat} {c : List Nat} (h : j < (clOf n col c).length) : (clOf n col c).getD j (0, 0, 0, 0) = ((n : Int), (col : Int), atOf c, (ciOf c).getD (j + 1) 0) := by
  cases c with
  | nil => simp [clOf] at h
  | cons a r =>
    have h2 : j < r.length := by simpa [clOf] using h
    simp [clOf, ciOf, atOf, ofN, List.getD, List.getElem?_eq_getElem h2]
theorem take_get {α : Type} {l : List α} {j : Nat} (h : j < l.length) (d : α) : l.take (j + 1) = l.take j ++ [l.getD j d] := by
  rw [List.take_succ_eq_append_getElem h]; simp [List.getD, List.getElem?_eq_getElem h]
end Ll
def RetRl (l : List Fc.Pr) (T N : Nat) (w : World) (e : Ending) (w' : World) : Prop := ∃ (E : List Bool) (Fs W : List Nat) (Rc M : List Bool) (vr vc : Value) (q : List (Ll.SV × List Int)), e = .returned (.tuple #[vr, vc]) ∧ Hid (Fc.Good l N E Fs W Rc M) ∧ Hid (q.map Prod.snd = Ll.rowsK l (Ll.mays E Fs W l) T N) ∧
  St w w' [aOwn 35 1 vr ((q.map Prod.fst).map Ll.slV), aAll (q.map Ll.aRow), aOwn 141 4 vc ((Ll.allK l (Ll.mays E Fs W l) T N).map Ll.clV)]

set_option maxRecDepth 100000 in
set_option maxHeartbeats 1500000 in
theorem llRef_any (t n : Int) (vp : Value) (l : List Fc.Pr) (w : World) (F : Nat → Prop) (hF : ∀ b, F b → b < w.heap.size) (h : Enc.prods.R F w [vp] l) (he : Gr.err t n l = 0) :
    Calls Try.prog 69 #[.agg #[.int .i64 t, .int .i64 n, vp]] w (RetRl l t.toNat n.toNat w) := by
  have HO := Lib.hid (fun (w' : World) (hb : Below w.heap.size w w') => fcRef_any t n vp l w' F (Enc.prods.mono h (fun _ h => h) (fun b hb' => hb.block b (hF b hb'))) he)
  have hok := Fc.okP_of he
  obtain ⟨z1, z2, z3, z4, hl40, hz6⟩ := Gr.err_zero he
  obtain ⟨N, rfl⟩ := Int.eq_ofNat_of_zero_le (show 0 ≤ n by omega)
  obtain ⟨T, rfl⟩ := Int.eq_ofNat_of_zero_le z1
  rw [Int.toNat_natCast] at HO hok
  rw [Int.toNat_natCast, Int.toNat_natCast]
  obtain ⟨ap, bp, op, cp, rfl, -, p3, p4⟩ := slProds h
  have P3 := Lib.hid p3; have P4 := Lib.hid p4
  have HP := Lib.hid h; have HOK := Lib.hid hok; have HF := Lib.hid hF; have HL40 := Lib.hid hl40
  have hN20 : (N : Int) ≤ 20 := z4
  have hN1 : (1 : Int) ≤ N := z3
  have hT30 : (T : Int) ≤ 30 := z2
  have hl40i : (l.length : Int) ≤ 40 := by omega
  clear h hF he hok hl40 hz6 p3 p4 z1 z2 z3 z4
  have HST := Lib.hid ((St.init w).alloc #[.int .i64 T, .int .i64 N, .slice ap l.length cp] 68)
  go_enter Try.func69, Try.ntmps69
  go_wp2_with (fail)
  go_at_call 45
  refine (HO.out _ HST.out.bel).mono ?_
  rintro e w1 ⟨gE, gF, gW, gR, gM, E, Fs, W, Rc, M, rfl, HG, hst1⟩
  have HST := Lib.hid ((HST.out.join hst1).alloc #[.slice (some ⟨gE, 0, none⟩) N N, .slice (some ⟨gF, 0, none⟩) N N, .slice (some ⟨gW, 0, none⟩) N N, .slice (some ⟨gR, 0, none⟩) N N, .slice (some ⟨gM, 0, none⟩) N N] 88)
  clear hst1 HO
  obtain ⟨m, hm⟩ : ∃ m, Ll.mays E Fs W l = m := ⟨_, rfl⟩
  have hml : m.length = l.length := by rw [← hm, Ll.mays_len]
  have hmb := Ll.mays_lt HG.out HOK.out
  rw [hm] at hmb
  have HM := Lib.hid hm; have HML := Lib.hid hml; have HMB := Lib.hid hmb
  clear hm hml hmb
  go_wp2
  generalize w1.heap.size = gB at *
  have HST := Lib.hid ((((HST.out.nilAll.nilOwn 35 1).nilOwn 141 4).pick [0, 1, 2, 4, 5, 3, 6, 7, 8, 9] 10 rfl rfl))
  rename World => wu
  go_loopg [5, 6, 7] N (fun gk v5 v6 v7 wr => ∃ (n : Nat) (vr vc : Value) (q : List (Ll.SV × List Int)), n ≤ N ∧ gk = N - n ∧ v7 = .int .i64 n ∧ vr = v5 ∧ vc = v6 ∧ Hid (q.map Prod.snd = Ll.rowsK l m T n) ∧ St w wr [aOwn 141 4 vc ((Ll.allK l m T n).map Ll.clV), aOwn 35 1 vr ((q.map Prod.fst).map Ll.slV), aAll (q.map Ll.aRow), Fc.aB (.slice (some ⟨gE, 0, none⟩) N N) E, Fc.aU (.slice (some ⟨gF, 0, none⟩) N N) Fs, aCel gB 88 #[.slice (some ⟨gE, 0, none⟩) N N, .slice (some ⟨gF, 0, none⟩) N N, .slice (some ⟨gW, 0, none⟩) N N, .slice (some ⟨gR, 0, none⟩) N N, .slice (some ⟨gM, 0, none⟩) N N], Fc.aU (.slice (some ⟨gW, 0, none⟩) N N) W, Fc.aB (.slice (some ⟨gR, 0, none⟩) N N) Rc, Fc.aB (.slice (some ⟨gM, 0, none⟩) N N) M, aCel w.heap.size 68 #[.int .i64 T, .int .i64 N, .slice ap l.length cp]])
  case atStart => exact ⟨0, _, _, [], by omega, by omega, rfl, rfl, rfl, Lib.hid (by rw [Ll.rowsK_zero]; rfl), by rw [Ll.allK_zero]; exact HST.out⟩
  case round =>
    clear HST
    obtain ⟨n, vr, vc, q, hn, hgk, rfl, rfl, rfl, HQ, hst⟩ := hrel
    have HGK := Lib.hid hgk
    clear hgk
    obtain ⟨g0, g1, g2⟩ := hst.at3 9 rfl
    by_cases hlt : n < N
    · have hlt2 : (n : Int) < N := by omega
      have HQL : Hid (q.length = n) := Lib.hid (by have := congrArg List.length HQ.out; rw [List.length_map, Ll.rowsK_len] at this; exact this)
      have HST := Lib.hid ((hst.nilOwn 3 1).pick [1, 0, 2, 3, 4, 5, 6, 7, 8, 9, 10] 11 rfl rfl)
      clear hst
      rename World => wv
      go_wp2
      clear g0 g1 g2
      go_loopg [6, 8, 9] (T + 1) (fun gk3 v6 v8 v9 wr3 => ∃ (col : Nat) (vc vrow : Value), col ≤ T + 1 ∧ gk3 = T + 1 - col ∧ v9 = .int .i64 col ∧ vc = v6 ∧ vrow = v8 ∧ St w wr3 [aOwn 141 4 vc ((Ll.allK l m T n ++ Ll.clK l m T n col).map Ll.clV), aOwn 3 1 vrow ((Ll.rowK l m T n col).map Ll.iV), aOwn 35 1 vr ((q.map Prod.fst).map Ll.slV), aAll (q.map Ll.aRow), Fc.aB (.slice (some ⟨gE, 0, none⟩) N N) E, Fc.aU (.slice (some ⟨gF, 0, none⟩) N N) Fs, aCel gB 88 #[.slice (some ⟨gE, 0, none⟩) N N, .slice (some ⟨gF, 0, none⟩) N N, .slice (some ⟨gW, 0, none⟩) N N, .slice (some ⟨gR, 0, none⟩) N N, .slice (some ⟨gM, 0, none⟩) N N], Fc.aU (.slice (some ⟨gW, 0, none⟩) N N) W, Fc.aB (.slice (some ⟨gR, 0, none⟩) N N) Rc, Fc.aB (.slice (some ⟨gM, 0, none⟩) N N) M, aCel w.heap.size 68 #[.int .i64 T, .int .i64 N, .slice ap l.length cp]])
      case atStart => exact ⟨0, _, _, by omega, by omega, rfl, rfl, rfl, by rw [Ll.clK_zero, Ll.rowK_zero, List.append_nil]; exact HST.out⟩
      case round =>
        clear HST
        obtain ⟨col, vc, vrow, hcol, hgk, rfl, rfl, rfl, hst⟩ := hrel
        have HGK3 := Lib.hid hgk
        clear hgk
        obtain ⟨g0, g1, g2⟩ := hst.at3 10 rfl
        by_cases hlc : col ≤ T
        · have hlc2 : (col : Int) ≤ (T : Int) := by omega
          have HST := Lib.hid ((hst.nilOwn 3 1))
          clear hst
          rename World => wy
          go_wp2
          clear g0 g1 g2
          go_loopg [10, 11] l.length (fun gk4 v10 v11 wr4 => ∃ (k : Nat) (vm : Value), k ≤ l.length ∧ gk4 = l.length - k ∧ v11 = .int .i64 k ∧ vm = v10 ∧ St w wr4 [aOwn 3 1 vm (((Ll.candK l m T n col k).map Ll.ofN).map Ll.iV), aOwn 141 4 vc ((Ll.allK l m T n ++ Ll.clK l m T n col).map Ll.clV), aOwn 3 1 vrow ((Ll.rowK l m T n col).map Ll.iV), aOwn 35 1 vr ((q.map Prod.fst).map Ll.slV), aAll (q.map Ll.aRow), Fc.aB (.slice (some ⟨gE, 0, none⟩) N N) E, Fc.aU (.slice (some ⟨gF, 0, none⟩) N N) Fs, aCel gB 88 #[.slice (some ⟨gE, 0, none⟩) N N, .slice (some ⟨gF, 0, none⟩) N N, .slice (some ⟨gW, 0, none⟩) N N, .slice (some ⟨gR, 0, none⟩) N N, .slice (some ⟨gM, 0, none⟩) N N], Fc.aU (.slice (some ⟨gW, 0, none⟩) N N) W, Fc.aB (.slice (some ⟨gR, 0, none⟩) N N) Rc, Fc.aB (.slice (some ⟨gM, 0, none⟩) N N) M, aCel w.heap.size 68 #[.int .i64 T, .int .i64 N, .slice ap l.length cp]])
          case atStart => exact ⟨0, _, by omega, by omega, rfl, rfl, by rw [Ll.candK_zero]; exact HST.out⟩
          case round =>
            clear HST
            obtain ⟨k, vm, hk, hgk, rfl, rfl, hst⟩ := hrel
            have HGK4 := Lib.hid hgk
            clear hgk
            obtain ⟨g0, g1, g2⟩ := hst.at3 11 rfl
            by_cases hlk : k < l.length
            · have hlk2 : (k : Int) < l.length := by omega
              obtain ⟨rfl, _, _⟩ := P3.out (by omega)
              obtain ⟨vb, s1, s2, hbody, -⟩ := P4.out k hlk
              have hmem : l.getD k (0, []) ∈ l := by rw [show l.getD k (0, []) = l[k] by simp [List.getD, List.getElem?_eq_getElem hlk]]; exact List.getElem_mem hlk
              have hokp := HOK.out _ hmem
              have hic := Ll.isC_def (l := l) (m := m) (t := T) (n := n) (col := col) (i := k)
              have hmg := Ll.mays_get (E := E) (F := Fs) (W := W) hlk
              rw [HM.out] at hmg
              have hcl := Ll.candK_len (l := l) (m := m) (t := T) (n := n) (col := col) (k := k)
              have hmb := HMB.out k
              generalize l.getD k (0, []) = p at *
              obtain ⟨h0, body⟩ := p
              have hpb := hokp.2.2
              obtain ⟨hp0, hp1, -⟩ := hokp
              simp only at s1 s2 hic hp0 hp1 hmg hbody hpb
              obtain ⟨h, rfl⟩ := Int.eq_ofNat_of_zero_le hp0
              rw [Int.toNat_natCast] at hmg
              have S1 := Lib.hid s1; have S2 := Lib.hid s2
              have s1 := bkeep hst.drew.bel s1
              have s2 := bkeep hst.drew.bel s2
              have hst2 := hst.drew.pick (ρ := [Fc.aB (.slice (some ⟨gE, 0, none⟩) N N) E, Fc.aU (.slice (some ⟨gF, 0, none⟩) N N) Fs, aOwn 3 1 vm (((Ll.candK l m T n col k).map Ll.ofN).map Ll.iV), aOwn 141 4 vc ((Ll.allK l m T n ++ Ll.clK l m T n col).map Ll.clV), aOwn 3 1 vrow ((Ll.rowK l m T n col).map Ll.iV), aOwn 35 1 vr ((q.map Prod.fst).map Ll.slV), aAll (q.map Ll.aRow), aCel gB 88 #[.slice (some ⟨gE, 0, none⟩) N N, .slice (some ⟨gF, 0, none⟩) N N, .slice (some ⟨gW, 0, none⟩) N N, .slice (some ⟨gR, 0, none⟩) N N, .slice (some ⟨gM, 0, none⟩) N N], Fc.aU (.slice (some ⟨gW, 0, none⟩) N N) W, Fc.aB (.slice (some ⟨gR, 0, none⟩) N N) Rc, Fc.aB (.slice (some ⟨gM, 0, none⟩) N N) M, aCel w.heap.size 68 #[.int .i64 T, .int .i64 N, .slice (some ⟨bp, op, none⟩) l.length cp]]) [5, 6, 0, 1, 2, 3, 4, 7, 8, 9, 10, 11] 12 rfl rfl
              have HSTD := Lib.hid hst2
              obtain ⟨x0, x1, x2, x3, x4⟩ := hst2.at5 7 rfl
              obtain ⟨g0, g1, g2⟩ := hst2.at3 11 rfl
              obtain ⟨c, hc⟩ : ∃ c, Ll.candK l m T n col k = c := ⟨_, rfl⟩
              rw [hc] at HSTD hcl
              have HC := Lib.hid hc
              have hcli : (c.length : Int) ≤ 40 := by omega
              by_cases hhn : h = n
              · subst hhn
                rw [decide_eq_true rfl, Bool.true_and] at hic
                have hne : ((h : Int) == (h : Int)) = true := by rw [beq_iff_eq]
                have hhW : h < W.length := by rw [HG.out.w]; omega
                have hWb := HG.out.wb h
                have HBEG := Lib.hid fun W' μ hs => fcRBeg_any w gE N N gF N N (.slice (some ⟨gW, 0, none⟩) N N) (.slice (some ⟨gR, 0, none⟩) N N) (.slice (some ⟨gM, 0, none⟩) N N) E Fs (W.getD h 0) F (by rw [HG.out.e]) (by rw [HG.out.f]) (by rw [HG.out.e, HG.out.f]) HG.out.fb hWb body vb W' μ hbody (fun x hx => by rw [HG.out.e]; rcases hpb x hx with ⟨a, b, c⟩ | ⟨a, b, c⟩; exact .inl ⟨a, b, by omega⟩; exact .inr ⟨a, b, c⟩) hs
                have HWC := Lib.hid fun (W0 : World) (hs : St w W0 [Fc.aU (.slice (some ⟨gW, 0, none⟩) N N) W]) => (show W0.cell? ⟨gW, h, none⟩ = some (.int .u64 ((W.getD h 0 : Nat) : Int)) from ((show St w W0 [aOwn 85 1 (.slice (some ⟨gW, 0, none⟩) N N) (W.map Fc.uV)] from hs).cellOwn (f := Fc.uV) (fun _ => rfl) h hhW 0).1)
                have wc := HWC.out _ (hst2.nth 8 rfl)
                obtain ⟨B, hB⟩ : ∃ B, (m.getD k 0).testBit (Ll.colbit T col) = B := ⟨_, rfl⟩
                have HCOL := Lib.hid fun W0 => llCol_any T N (.slice (some ⟨bp, op, none⟩) l.length cp) T col (m.getD k 0) rfl (by omega) hlc hmb W0
                rw [hB] at hic HCOL
                rw [← hmg] at HBEG
                generalize W.getD h 0 = wv at *
                generalize m.getD k 0 = mv at *
                have HIC := Lib.hid hic
                obtain ⟨ab, bb, ob, cb, rfl, -, -, -⟩ := slTwo hbody
                clear hst hst2 hic hmb hB hc hbody hmem hpb hWb hhW hp0 hmg HST
                go_wp2
                cases B
                all_goals
                  refine wp_region_held_drew (S := (fun w' => w'.cell? ⟨w.heap.size, 0, none⟩ = some (.int .i64 T) ∧ w'.cell? ⟨w.heap.size, 1, none⟩ = some (.int .i64 N) ∧ w'.cell? ⟨w.heap.size, 2, none⟩ = some (.slice (some ⟨bp, op, none⟩) l.length cp) ∧ w'.cell? ⟨bp, op + k * 2, none⟩ = some (.int .i64 h) ∧ w'.cell? ⟨bp, op + k * 2 + 1, none⟩ = some (.slice ab body.length cb) ∧ w'.cell? ⟨gB, 0, none⟩ = some (.slice (some ⟨gE, 0, none⟩) N N) ∧ w'.cell? ⟨gB, 1, none⟩ = some (.slice (some ⟨gF, 0, none⟩) N N) ∧ w'.cell? ⟨gB, 2, none⟩ = some (.slice (some ⟨gW, 0, none⟩) N N) ∧ w'.cell? ⟨gB, 3, none⟩ = some (.slice (some ⟨gR, 0, none⟩) N N) ∧ w'.cell? ⟨gB, 4, none⟩ = some (.slice (some ⟨gM, 0, none⟩) N N) ∧ w'.cell? ⟨gW, h, none⟩ = some (.int .u64 wv))) (by kernel_rfl) ?_ (fun hHeld => ?_)
                  · (try dsimp only); (first | exact ⟨g0, g1, g2, s1, s2, x0, x1, x2, x3, x4, wc⟩ | go_keep)

                  refine wpAnyH_take (i := 0) (v := ?_) rfl (by kernel_rfl) (by kernel_rfl) (by kernel_rfl) (fun _ _ _ h => h) (Or.inl ⟨by rfl, ?_⟩) (by assumption) ?_
                  rotate_left; focus (intro w hSw; (try dsimp only at hSw); go_simp; try (with_reducible rfl); done)
                  try simp only [List.getElem_toArray, List.getElem_cons_zero, List.getElem_cons_succ, Act.put, List.setIfInBounds_toArray, List.set_cons_zero, List.set_cons_succ]
                  refine wpAnyH_take (i := 1) (v := ?_) rfl (by kernel_rfl) (by kernel_rfl) (by kernel_rfl) (fun _ _ _ h => h) (Or.inl ⟨by rfl, ?_⟩) (by assumption) ?_
                  rotate_left; focus (intro w hSw; (try dsimp only at hSw); go_simp; try (with_reducible rfl); done)
                  try simp only [List.getElem_toArray, List.getElem_cons_zero, List.getElem_cons_succ, Act.put, List.setIfInBounds_toArray, List.set_cons_zero, List.set_cons_succ]
                  refine wpAnyH_take (i := 2) (v := ?_) rfl (by kernel_rfl) (by kernel_rfl) (by kernel_rfl) (fun _ _ _ h => h) (Or.inl ⟨by rfl, ?_⟩) (by assumption) ?_
                  rotate_left; focus (intro w hSw; (try dsimp only at hSw); go_simp; try (with_reducible rfl); done)
                  try simp only [List.getElem_toArray, List.getElem_cons_zero, List.getElem_cons_succ, Act.put, List.setIfInBounds_toArray, List.set_cons_zero, List.set_cons_succ]
                  refine wpAnyH_take (i := 3) (v := ?_) rfl (by kernel_rfl) (by kernel_rfl) (by kernel_rfl) (fun _ _ _ h => h) (Or.inl ⟨by rfl, ?_⟩) (by assumption) ?_
                  rotate_left; focus (intro w hSw; (try dsimp only at hSw); go_simp; try (with_reducible rfl); done)
                  try simp only [List.getElem_toArray, List.getElem_cons_zero, List.getElem_cons_succ, Act.put, List.setIfInBounds_toArray, List.set_cons_zero, List.set_cons_succ]
                  refine wpAnyH_take (i := 4) (v := ?_) rfl (by kernel_rfl) (by kernel_rfl) (by kernel_rfl) (fun _ _ _ h => h) (Or.inl ⟨by rfl, ?_⟩) (by assumption) ?_
                  rotate_left; focus (intro w hSw; (try dsimp only at hSw); go_simp; try (with_reducible rfl); done)
                  try simp only [List.getElem_toArray, List.getElem_cons_zero, List.getElem_cons_succ, Act.put, List.setIfInBounds_toArray, List.set_cons_zero, List.set_cons_succ]
                  refine wpAnyH_take (i := 5) (v := ?_) rfl (by kernel_rfl) (by kernel_rfl) (by kernel_rfl) (fun _ _ _ h => h) (Or.inl ⟨by rfl, ?_⟩) (by assumption) ?_
                  rotate_left; focus (intro w hSw; (try dsimp only at hSw); go_simp; try (with_reducible rfl); done)
                  try simp only [List.getElem_toArray, List.getElem_cons_zero, List.getElem_cons_succ, Act.put, List.setIfInBounds_toArray, List.set_cons_zero, List.set_cons_succ]
                  refine wpAnyH_take (i := 6) (v := ?_) rfl (by kernel_rfl) (by kernel_rfl) (by kernel_rfl) (fun _ _ _ h => h) (Or.inl ⟨by rfl, ?_⟩) (by assumption) ?_
                  rotate_left; focus (intro w hSw; (try dsimp only at hSw); go_simp; try (with_reducible rfl); done)
                  try simp only [List.getElem_toArray, List.getElem_cons_zero, List.getElem_cons_succ, Act.put, List.setIfInBounds_toArray, List.set_cons_zero, List.set_cons_succ]
                  refine wpAnyH_take (i := 7) (v := ?_) rfl (by kernel_rfl) (by kernel_rfl) (by kernel_rfl) (fun _ _ _ h => h) (Or.inl ⟨by rfl, ?_⟩) (by assumption) ?_
                  rotate_left; focus (intro w hSw; (try dsimp only at hSw); go_simp; try (with_reducible rfl); done)
                  try simp only [List.getElem_toArray, List.getElem_cons_zero, List.getElem_cons_succ, Act.put, List.setIfInBounds_toArray, List.set_cons_zero, List.set_cons_succ]
                  refine wpAnyH_take (i := 8) (v := ?_) rfl (by kernel_rfl) (by kernel_rfl) (by kernel_rfl) (fun _ _ _ h => h) (Or.inl ⟨by rfl, ?_⟩) (by assumption) ?_
                  rotate_left; focus (intro w hSw; (try dsimp only at hSw); go_simp; try (with_reducible rfl); done)
                  try simp only [List.getElem_toArray, List.getElem_cons_zero, List.getElem_cons_succ, Act.put, List.setIfInBounds_toArray, List.set_cons_zero, List.set_cons_succ]
                  refine wpAnyH_take (i := 9) (v := ?_) rfl (by kernel_rfl) (by kernel_rfl) (by kernel_rfl) (fun _ _ _ h => h) (Or.inl ⟨by rfl, ?_⟩) (by assumption) ?_
                  rotate_left; focus (intro w hSw; (try dsimp only at hSw); go_simp; try (with_reducible rfl); done)
                  try simp only [List.getElem_toArray, List.getElem_cons_zero, List.getElem_cons_succ, Act.put, List.setIfInBounds_toArray, List.set_cons_zero, List.set_cons_succ]
                  refine wpAnyH_take (i := 10) (v := ?_) rfl (by kernel_rfl) (by kernel_rfl) (by kernel_rfl) (fun _ _ _ h => h) (Or.inl ⟨by rfl, ?_⟩) (by assumption) ?_
                  rotate_left; focus (intro w hSw; (try dsimp only at hSw); go_simp; try (with_reducible rfl); done)
                  try simp only [List.getElem_toArray, List.getElem_cons_zero, List.getElem_cons_succ, Act.put, List.setIfInBounds_toArray, List.set_cons_zero, List.set_cons_succ]
                  refine wpAnyH_take (i := 11) (v := ?_) rfl (by kernel_rfl) (by kernel_rfl) (by kernel_rfl) (fun _ _ _ h => h) (Or.inl ⟨by rfl, ?_⟩) (by assumption) ?_
                  rotate_left; focus (intro w hSw; (try dsimp only at hSw); go_simp; try (with_reducible rfl); done)
                  try simp only [List.getElem_toArray, List.getElem_cons_zero, List.getElem_cons_succ, Act.put, List.setIfInBounds_toArray, List.set_cons_zero, List.set_cons_succ]
                  refine wpAnyH_take (i := 12) (v := ?_) rfl (by kernel_rfl) (by kernel_rfl) (by kernel_rfl) (fun _ _ _ h => h) (Or.inl ⟨by rfl, ?_⟩) (by assumption) ?_
                  rotate_left; focus (intro w hSw; (try dsimp only at hSw); go_simp; try (with_reducible rfl); done)
                  try simp only [List.getElem_toArray, List.getElem_cons_zero, List.getElem_cons_succ, Act.put, List.setIfInBounds_toArray, List.set_cons_zero, List.set_cons_succ]
                  refine wpAnyH_take (i := 13) (v := ?_) rfl (by kernel_rfl) (by kernel_rfl) (by kernel_rfl) (fun _ _ _ h => h) (Or.inl ⟨by rfl, ?_⟩) (by assumption) ?_
                  rotate_left; focus (intro w hSw; (try dsimp only at hSw); go_simp; try (with_reducible rfl); done)
                  try simp only [List.getElem_toArray, List.getElem_cons_zero, List.getElem_cons_succ, Act.put, List.setIfInBounds_toArray, List.set_cons_zero, List.set_cons_succ]
                  refine wpAnyH_take (i := 14) (v := ?_) rfl (by kernel_rfl) (by kernel_rfl) (by kernel_rfl) (fun _ _ _ h => h) (Or.inl ⟨by rfl, ?_⟩) (by assumption) ?_
                  rotate_left; focus (intro w hSw; (try dsimp only at hSw); go_simp; try (with_reducible rfl); done)
                  try simp only [List.getElem_toArray, List.getElem_cons_zero, List.getElem_cons_succ, Act.put, List.setIfInBounds_toArray, List.set_cons_zero, List.set_cons_succ]
                  refine wpAnyH_take (i := 15) (v := ?_) rfl (by kernel_rfl) (by kernel_rfl) (by kernel_rfl) (fun _ _ _ h => h) (Or.inl ⟨by rfl, ?_⟩) (by assumption) ?_
                  rotate_left; focus (intro w hSw; (try dsimp only at hSw); go_simp; try (with_reducible rfl); done)
                  try simp only [List.getElem_toArray, List.getElem_cons_zero, List.getElem_cons_succ, Act.put, List.setIfInBounds_toArray, List.set_cons_zero, List.set_cons_succ]
                  refine wpAnyH_take (i := 16) (v := ?_) rfl (by kernel_rfl) (by kernel_rfl) (by kernel_rfl) (fun _ _ _ h => h) (Or.inl ⟨by rfl, ?_⟩) (by assumption) ?_
                  rotate_left; focus (intro w hSw; (try dsimp only at hSw); go_simp; try (with_reducible rfl); done)
                  try simp only [List.getElem_toArray, List.getElem_cons_zero, List.getElem_cons_succ, Act.put, List.setIfInBounds_toArray, List.set_cons_zero, List.set_cons_succ]
                  refine wpAnyH_take (i := 17) (v := ?_) rfl (by kernel_rfl) (by kernel_rfl) (by kernel_rfl) (fun _ _ _ h => h) (Or.inl ⟨by rfl, ?_⟩) (by assumption) ?_
                  rotate_left; focus (intro w hSw; (try dsimp only at hSw); go_simp; try (with_reducible rfl); done)
                  try simp only [List.getElem_toArray, List.getElem_cons_zero, List.getElem_cons_succ, Act.put, List.setIfInBounds_toArray, List.set_cons_zero, List.set_cons_succ]
                  refine wpAnyH_take (i := 18) (v := ?_) rfl (by kernel_rfl) (by kernel_rfl) (by kernel_rfl) (fun _ _ _ h => h) (Or.inl ⟨by rfl, ?_⟩) (by assumption) ?_
                  rotate_left; focus (intro w hSw; (try dsimp only at hSw); go_simp; try (with_reducible rfl); done)
                  try simp only [List.getElem_toArray, List.getElem_cons_zero, List.getElem_cons_succ, Act.put, List.setIfInBounds_toArray, List.set_cons_zero, List.set_cons_succ]
                  refine wpAnyH_take (i := 19) (v := ?_) rfl (by kernel_rfl) (by kernel_rfl) (by kernel_rfl) (fun _ _ _ h => h) (Or.inl ⟨by rfl, ?_⟩) (by assumption) ?_
                  rotate_left; focus (intro w hSw; (try dsimp only at hSw); go_simp; try (with_reducible rfl); done)
                  try simp only [List.getElem_toArray, List.getElem_cons_zero, List.getElem_cons_succ, Act.put, List.setIfInBounds_toArray, List.set_cons_zero, List.set_cons_succ]
                  refine wpAnyH_take (i := 20) (v := ?_) rfl (by kernel_rfl) (by kernel_rfl) (by kernel_rfl) (fun _ _ _ h => h) (Or.inl ⟨by rfl, ?_⟩) (by assumption) ?_
                  rotate_left; focus (intro w hSw; (try dsimp only at hSw); go_simp; try (with_reducible rfl); done)
                  try simp only [List.getElem_toArray, List.getElem_cons_zero, List.getElem_cons_succ, Act.put, List.setIfInBounds_toArray, List.set_cons_zero, List.set_cons_succ]
                  refine wpAnyH_take (i := 21) (v := ?_) rfl (by kernel_rfl) (by kernel_rfl) (by kernel_rfl) (fun _ _ _ h => h) (Or.inl ⟨by rfl, ?_⟩) (by assumption) ?_
                  rotate_left; focus (intro w hSw; (try dsimp only at hSw); go_simp; try (with_reducible rfl); done)
                  try simp only [List.getElem_toArray, List.getElem_cons_zero, List.getElem_cons_succ, Act.put, List.setIfInBounds_toArray, List.set_cons_zero, List.set_cons_succ]
                  refine wpAnyH_take (i := 23) (v := ?_) rfl (by kernel_rfl) (by kernel_rfl) (by kernel_rfl) (fun _ _ _ h => h) (Or.inl ⟨by rfl, ?_⟩) (by assumption) ?_
                  rotate_left; focus (intro w hSw; (try dsimp only at hSw); go_simp; try (with_reducible rfl); done)
                  try simp only [List.getElem_toArray, List.getElem_cons_zero, List.getElem_cons_succ, Act.put, List.setIfInBounds_toArray, List.set_cons_zero, List.set_cons_succ]
                  refine wpAnyH_ready (rs := [22]) (by kernel_rfl) (by simp) ?_
                  refine AllReadyH.cons rfl (fun K hK => ?_) AllReadyH.nil
                  go_simp
                  (first | (go_at_call 49; refine (HBEG.out _ _ HSTD.out).mono ?_; rintro e w8 ⟨rfl, hst8⟩; have HSTD := Lib.hid hst8; obtain ⟨x0, x1, x2, x3, x4⟩ := hst8.at5 7 rfl; obtain ⟨g0, g1, g2⟩ := hst8.at3 11 rfl; have wc := HWC.out _ (hst8.nth 8 rfl); have s1 := bkeep hst8.bel S1.out; have s2 := bkeep hst8.bel S2.out; clear hst8) | (go_at_call 136; refine (HCOL.out _).mono ?_; rintro e w9 ⟨rfl, hb9⟩; have hst9 := HSTD.out.call hb9; have HSTD := Lib.hid hst9; obtain ⟨x0, x1, x2, x3, x4⟩ := hst9.at5 7 rfl; obtain ⟨g0, g1, g2⟩ := hst9.at3 11 rfl; have wc := HWC.out _ (hst9.nth 8 rfl); have s1 := bkeep hst9.bel S1.out; have s2 := bkeep hst9.bel S2.out; clear hst9 hb9))
                  refine hK.out _ _ ?_ (fun hHeld => ?_)
                  · (try dsimp only); (first | exact ⟨g0, g1, g2, s1, s2, x0, x1, x2, x3, x4, wc⟩ | go_keep)
                  clear hK K
                  try simp only [List.getElem_toArray, List.getElem_cons_zero, List.getElem_cons_succ, Act.put, List.setIfInBounds_toArray, List.set_cons_zero, List.set_cons_succ]
                  refine wpAnyH_ready (rs := [24]) (by kernel_rfl) (by simp) ?_
                  refine AllReadyH.cons rfl (fun K hK => ?_) AllReadyH.nil
                  go_simp
                  (first | (go_at_call 49; refine (HBEG.out _ _ HSTD.out).mono ?_; rintro e w8 ⟨rfl, hst8⟩; have HSTD := Lib.hid hst8; obtain ⟨x0, x1, x2, x3, x4⟩ := hst8.at5 7 rfl; obtain ⟨g0, g1, g2⟩ := hst8.at3 11 rfl; have wc := HWC.out _ (hst8.nth 8 rfl); have s1 := bkeep hst8.bel S1.out; have s2 := bkeep hst8.bel S2.out; clear hst8) | (go_at_call 136; refine (HCOL.out _).mono ?_; rintro e w9 ⟨rfl, hb9⟩; have hst9 := HSTD.out.call hb9; have HSTD := Lib.hid hst9; obtain ⟨x0, x1, x2, x3, x4⟩ := hst9.at5 7 rfl; obtain ⟨g0, g1, g2⟩ := hst9.at3 11 rfl; have wc := HWC.out _ (hst9.nth 8 rfl); have s1 := bkeep hst9.bel S1.out; have s2 := bkeep hst9.bel S2.out; clear hst9 hb9))
                  refine hK.out _ _ ?_ (fun hHeld => ?_)
                  · (try dsimp only); (first | exact ⟨g0, g1, g2, s1, s2, x0, x1, x2, x3, x4, wc⟩ | go_keep)
                  clear hK K
                  try simp only [List.getElem_toArray, List.getElem_cons_zero, List.getElem_cons_succ, Act.put, List.setIfInBounds_toArray, List.set_cons_zero, List.set_cons_succ]
                  refine wpAnyH_take (i := 25) (v := ?_) rfl (by kernel_rfl) (by kernel_rfl) (by kernel_rfl) (fun _ _ _ h => h) (Or.inl ⟨by rfl, ?_⟩) (by assumption) ?_
                  rotate_left; focus (intro w hSw; (try dsimp only at hSw); go_simp; try (with_reducible rfl); done)
                  try simp only [List.getElem_toArray, List.getElem_cons_zero, List.getElem_cons_succ, Act.put, List.setIfInBounds_toArray, List.set_cons_zero, List.set_cons_succ]
                  refine wpAnyH_done (by kernel_rfl) ?_ _
                  clear x0 x1 x2 x3 x4 g0 g1 g2 s1 s2 wc HBEG HCOL HWC
                · have HCN := Lib.hid (Ll.candK_no HIC.out)
                  go_wp2
                  go_roundg (l.length - (k + 1))
                  case measure => have := HGK4.out; omega
                  case rel => exact ⟨k + 1, vm, by omega, rfl, by go_num, rfl, by rw [HCN.out, HC.out]; exact HSTD.out.pick [2, 3, 4, 5, 6, 0, 1, 7, 8, 9, 10, 11] 12 rfl rfl⟩
                · have hcy := Ll.candK_yes HIC.out
                  rw [HC.out] at hcy
                  have HCY := Lib.hid hcy
                  have HST := Lib.hid (HSTD.out.pick (ρ := [aOwn 3 1 vm ((c.map Ll.ofN).map Ll.iV), aOwn 141 4 vc ((Ll.allK l m T h ++ Ll.clK l m T h col).map Ll.clV), aOwn 3 1 vrow ((Ll.rowK l m T h col).map Ll.iV), aOwn 35 1 vr ((q.map Prod.fst).map Ll.slV), aAll (q.map Ll.aRow), Fc.aB (.slice (some ⟨gE, 0, none⟩) N N) E, Fc.aU (.slice (some ⟨gF, 0, none⟩) N N) Fs, aCel gB 88 #[.slice (some ⟨gE, 0, none⟩) N N, .slice (some ⟨gF, 0, none⟩) N N, .slice (some ⟨gW, 0, none⟩) N N, .slice (some ⟨gR, 0, none⟩) N N, .slice (some ⟨gM, 0, none⟩) N N], Fc.aU (.slice (some ⟨gW, 0, none⟩) N N) W, Fc.aB (.slice (some ⟨gR, 0, none⟩) N N) Rc, Fc.aB (.slice (some ⟨gM, 0, none⟩) N N) M, aCel w.heap.size 68 #[.int .i64 T, .int .i64 N, .slice (some ⟨bp, op, none⟩) l.length cp]]) [2, 3, 4, 5, 6, 0, 1, 7, 8, 9, 10, 11] 12 rfl rfl)
                  have hlen : (((c.map Ll.ofN).map Ll.iV).length : Int) ≤ 40 := by rw [List.length_map, List.length_map]; exact hcli
                  clear hcy HSTD
                  go_wp2_with (refine St.app1n (o := ⟨some 63, _, _, _, _, _⟩) intE ?b1 (.tmp 60) (.tmp 62) ?b2 ?b3 HST.out (.int .i64 k) ?b4 w9.heap.size 1 ?b5 ?b6 ?b7 ?b8 ?b9 ?b10 ?b11; (case b1 => rfl); (case b2 => rfl); (case b6 => rfl); (case b7 => rfl); (case b4 => rfl); (case b3 => rfl); (case b5 => rfl); (case b8 => (intro q hq; simp [Value.cells] at hq; subst hq; rfl)); (case b9 => (unfold maxLen; omega)); (case b10 => omega); intro g' n' c' wA hstA; clear HST)
                  go_roundg (l.length - (k + 1))
                  case measure => have := HGK4.out; omega
                  case rel => exact ⟨k + 1, _, by omega, rfl, by go_num, rfl, by
                    have e : (c.map Ll.ofN).map Ll.iV ++ [.int .i64 (k : Int)] = ((c ++ [k]).map Ll.ofN).map Ll.iV := by simp [Ll.ofN, Ll.iV]
                    rw [HCY.out, ← e]
                    exact hstA⟩
              · have hic0 : Ll.isC l m T n col k = false := by rw [hic, decide_eq_false (by omega)]; rfl
                have HCN := Lib.hid (Ll.candK_no hic0)
                have hne : ((h : Int) == (n : Int)) = false := by rw [beq_eq_false_iff_ne]; omega
                clear hst hst2 hic hic0 hhn hmb hc hbody hmem hpb hp0 hmg HST
                go_wp2
                refine wp_region_held_drew (S := (fun w' => w'.cell? ⟨w.heap.size, 2, none⟩ = some (.slice (some ⟨bp, op, none⟩) l.length cp) ∧ w'.cell? ⟨bp, op + k * 2, none⟩ = some (.int .i64 h))) (by kernel_rfl) ?_ (fun hHeld => ?_)
                · (try dsimp only); (first | exact ⟨g2, s1⟩ | go_keep)

                refine wpAnyH_take (i := 0) (v := ?_) rfl (by kernel_rfl) (by kernel_rfl) (by kernel_rfl) (fun _ _ _ h => h) (Or.inl ⟨by rfl, ?_⟩) (by assumption) ?_
                rotate_left; focus (intro w hSw; (try dsimp only at hSw); go_simp; try (with_reducible rfl); done)
                try simp only [List.getElem_toArray, List.getElem_cons_zero, List.getElem_cons_succ, Act.put, List.setIfInBounds_toArray, List.set_cons_zero, List.set_cons_succ]
                refine wpAnyH_take (i := 1) (v := ?_) rfl (by kernel_rfl) (by kernel_rfl) (by kernel_rfl) (fun _ _ _ h => h) (Or.inl ⟨by rfl, ?_⟩) (by assumption) ?_
                rotate_left; focus (intro w hSw; (try dsimp only at hSw); go_simp; try (with_reducible rfl); done)
                try simp only [List.getElem_toArray, List.getElem_cons_zero, List.getElem_cons_succ, Act.put, List.setIfInBounds_toArray, List.set_cons_zero, List.set_cons_succ]
                refine wpAnyH_take (i := 2) (v := ?_) rfl (by kernel_rfl) (by kernel_rfl) (by kernel_rfl) (fun _ _ _ h => h) (Or.inl ⟨by rfl, ?_⟩) (by assumption) ?_
                rotate_left; focus (intro w hSw; (try dsimp only at hSw); go_simp; try (with_reducible rfl); done)
                try simp only [List.getElem_toArray, List.getElem_cons_zero, List.getElem_cons_succ, Act.put, List.setIfInBounds_toArray, List.set_cons_zero, List.set_cons_succ]
                refine wpAnyH_take (i := 3) (v := ?_) rfl (by kernel_rfl) (by kernel_rfl) (by kernel_rfl) (fun _ _ _ h => h) (Or.inl ⟨by rfl, ?_⟩) (by assumption) ?_
                rotate_left; focus (intro w hSw; (try dsimp only at hSw); go_simp; try (with_reducible rfl); done)
                try simp only [List.getElem_toArray, List.getElem_cons_zero, List.getElem_cons_succ, Act.put, List.setIfInBounds_toArray, List.set_cons_zero, List.set_cons_succ]
                refine wpAnyH_take (i := 4) (v := ?_) rfl (by kernel_rfl) (by kernel_rfl) (by kernel_rfl) (fun _ _ _ h => h) (Or.inl ⟨by rfl, ?_⟩) (by assumption) ?_
                rotate_left; focus (intro w hSw; (try dsimp only at hSw); go_simp; try (with_reducible rfl); done)
                try simp only [List.getElem_toArray, List.getElem_cons_zero, List.getElem_cons_succ, Act.put, List.setIfInBounds_toArray, List.set_cons_zero, List.set_cons_succ]
                refine wpAnyH_take (i := 5) (v := ?_) rfl (by kernel_rfl) (by kernel_rfl) (by kernel_rfl) (fun _ _ _ h => h) (Or.inl ⟨by rfl, ?_⟩) (by assumption) ?_
                rotate_left; focus (intro w hSw; (try dsimp only at hSw); go_simp; try (with_reducible rfl); done)
                try simp only [List.getElem_toArray, List.getElem_cons_zero, List.getElem_cons_succ, Act.put, List.setIfInBounds_toArray, List.set_cons_zero, List.set_cons_succ]
                refine wpAnyH_take (i := 6) (v := ?_) rfl (by kernel_rfl) (by kernel_rfl) (by kernel_rfl) (fun _ _ _ h => h) (Or.inl ⟨by rfl, ?_⟩) (by assumption) ?_
                rotate_left; focus (intro w hSw; (try dsimp only at hSw); go_simp; try (with_reducible rfl); done)
                try simp only [List.getElem_toArray, List.getElem_cons_zero, List.getElem_cons_succ, Act.put, List.setIfInBounds_toArray, List.set_cons_zero, List.set_cons_succ]
                refine wpAnyH_take (i := 7) (v := ?_) rfl (by kernel_rfl) (by kernel_rfl) (by kernel_rfl) (fun _ _ _ h => h) (Or.inl ⟨by rfl, ?_⟩) (by assumption) ?_
                rotate_left; focus (intro w hSw; (try dsimp only at hSw); go_simp; try (with_reducible rfl); done)
                try simp only [List.getElem_toArray, List.getElem_cons_zero, List.getElem_cons_succ, Act.put, List.setIfInBounds_toArray, List.set_cons_zero, List.set_cons_succ]
                refine wpAnyH_take (i := 8) (v := ?_) rfl (by kernel_rfl) (by kernel_rfl) (by kernel_rfl) (fun _ _ _ h => h) (Or.inl ⟨by rfl, ?_⟩) (by assumption) ?_
                rotate_left; focus (intro w hSw; (try dsimp only at hSw); go_simp; try (with_reducible rfl); done)
                try simp only [List.getElem_toArray, List.getElem_cons_zero, List.getElem_cons_succ, Act.put, List.setIfInBounds_toArray, List.set_cons_zero, List.set_cons_succ]
                first | (refine wpAnyH_take (i := 9) (v := undef) rfl (by kernel_rfl) (by kernel_rfl) (by kernel_rfl) (fun _ _ _ h => h) (Or.inr ⟨by rfl, rfl⟩) (by assumption) ?_) | (refine wpAnyH_take (i := 9) (v := ?_) rfl (by kernel_rfl) (by kernel_rfl) (by kernel_rfl) (fun _ _ _ h => h) (Or.inl ⟨by rfl, ?_⟩) (by assumption) ?_; rotate_left; focus (intro w hSw; (try dsimp only at hSw); go_simp; try (with_reducible rfl); done))
                try simp only [List.getElem_toArray, List.getElem_cons_zero, List.getElem_cons_succ, Act.put, List.setIfInBounds_toArray, List.set_cons_zero, List.set_cons_succ]
                first | (refine wpAnyH_take (i := 10) (v := undef) rfl (by kernel_rfl) (by kernel_rfl) (by kernel_rfl) (fun _ _ _ h => h) (Or.inr ⟨by rfl, rfl⟩) (by assumption) ?_) | (refine wpAnyH_take (i := 10) (v := ?_) rfl (by kernel_rfl) (by kernel_rfl) (by kernel_rfl) (fun _ _ _ h => h) (Or.inl ⟨by rfl, ?_⟩) (by assumption) ?_; rotate_left; focus (intro w hSw; (try dsimp only at hSw); go_simp; try (with_reducible rfl); done))
                try simp only [List.getElem_toArray, List.getElem_cons_zero, List.getElem_cons_succ, Act.put, List.setIfInBounds_toArray, List.set_cons_zero, List.set_cons_succ]
                first | (refine wpAnyH_take (i := 11) (v := undef) rfl (by kernel_rfl) (by kernel_rfl) (by kernel_rfl) (fun _ _ _ h => h) (Or.inr ⟨by rfl, rfl⟩) (by assumption) ?_) | (refine wpAnyH_take (i := 11) (v := ?_) rfl (by kernel_rfl) (by kernel_rfl) (by kernel_rfl) (fun _ _ _ h => h) (Or.inl ⟨by rfl, ?_⟩) (by assumption) ?_; rotate_left; focus (intro w hSw; (try dsimp only at hSw); go_simp; try (with_reducible rfl); done))
                try simp only [List.getElem_toArray, List.getElem_cons_zero, List.getElem_cons_succ, Act.put, List.setIfInBounds_toArray, List.set_cons_zero, List.set_cons_succ]
                first | (refine wpAnyH_take (i := 12) (v := undef) rfl (by kernel_rfl) (by kernel_rfl) (by kernel_rfl) (fun _ _ _ h => h) (Or.inr ⟨by rfl, rfl⟩) (by assumption) ?_) | (refine wpAnyH_take (i := 12) (v := ?_) rfl (by kernel_rfl) (by kernel_rfl) (by kernel_rfl) (fun _ _ _ h => h) (Or.inl ⟨by rfl, ?_⟩) (by assumption) ?_; rotate_left; focus (intro w hSw; (try dsimp only at hSw); go_simp; try (with_reducible rfl); done))
                try simp only [List.getElem_toArray, List.getElem_cons_zero, List.getElem_cons_succ, Act.put, List.setIfInBounds_toArray, List.set_cons_zero, List.set_cons_succ]
                first | (refine wpAnyH_take (i := 13) (v := undef) rfl (by kernel_rfl) (by kernel_rfl) (by kernel_rfl) (fun _ _ _ h => h) (Or.inr ⟨by rfl, rfl⟩) (by assumption) ?_) | (refine wpAnyH_take (i := 13) (v := ?_) rfl (by kernel_rfl) (by kernel_rfl) (by kernel_rfl) (fun _ _ _ h => h) (Or.inl ⟨by rfl, ?_⟩) (by assumption) ?_; rotate_left; focus (intro w hSw; (try dsimp only at hSw); go_simp; try (with_reducible rfl); done))
                try simp only [List.getElem_toArray, List.getElem_cons_zero, List.getElem_cons_succ, Act.put, List.setIfInBounds_toArray, List.set_cons_zero, List.set_cons_succ]
                first | (refine wpAnyH_take (i := 14) (v := undef) rfl (by kernel_rfl) (by kernel_rfl) (by kernel_rfl) (fun _ _ _ h => h) (Or.inr ⟨by rfl, rfl⟩) (by assumption) ?_) | (refine wpAnyH_take (i := 14) (v := ?_) rfl (by kernel_rfl) (by kernel_rfl) (by kernel_rfl) (fun _ _ _ h => h) (Or.inl ⟨by rfl, ?_⟩) (by assumption) ?_; rotate_left; focus (intro w hSw; (try dsimp only at hSw); go_simp; try (with_reducible rfl); done))
                try simp only [List.getElem_toArray, List.getElem_cons_zero, List.getElem_cons_succ, Act.put, List.setIfInBounds_toArray, List.set_cons_zero, List.set_cons_succ]
                first | (refine wpAnyH_take (i := 15) (v := undef) rfl (by kernel_rfl) (by kernel_rfl) (by kernel_rfl) (fun _ _ _ h => h) (Or.inr ⟨by rfl, rfl⟩) (by assumption) ?_) | (refine wpAnyH_take (i := 15) (v := ?_) rfl (by kernel_rfl) (by kernel_rfl) (by kernel_rfl) (fun _ _ _ h => h) (Or.inl ⟨by rfl, ?_⟩) (by assumption) ?_; rotate_left; focus (intro w hSw; (try dsimp only at hSw); go_simp; try (with_reducible rfl); done))
                try simp only [List.getElem_toArray, List.getElem_cons_zero, List.getElem_cons_succ, Act.put, List.setIfInBounds_toArray, List.set_cons_zero, List.set_cons_succ]
                first | (refine wpAnyH_take (i := 16) (v := undef) rfl (by kernel_rfl) (by kernel_rfl) (by kernel_rfl) (fun _ _ _ h => h) (Or.inr ⟨by rfl, rfl⟩) (by assumption) ?_) | (refine wpAnyH_take (i := 16) (v := ?_) rfl (by kernel_rfl) (by kernel_rfl) (by kernel_rfl) (fun _ _ _ h => h) (Or.inl ⟨by rfl, ?_⟩) (by assumption) ?_; rotate_left; focus (intro w hSw; (try dsimp only at hSw); go_simp; try (with_reducible rfl); done))
                try simp only [List.getElem_toArray, List.getElem_cons_zero, List.getElem_cons_succ, Act.put, List.setIfInBounds_toArray, List.set_cons_zero, List.set_cons_succ]
                first | (refine wpAnyH_take (i := 17) (v := undef) rfl (by kernel_rfl) (by kernel_rfl) (by kernel_rfl) (fun _ _ _ h => h) (Or.inr ⟨by rfl, rfl⟩) (by assumption) ?_) | (refine wpAnyH_take (i := 17) (v := ?_) rfl (by kernel_rfl) (by kernel_rfl) (by kernel_rfl) (fun _ _ _ h => h) (Or.inl ⟨by rfl, ?_⟩) (by assumption) ?_; rotate_left; focus (intro w hSw; (try dsimp only at hSw); go_simp; try (with_reducible rfl); done))
                try simp only [List.getElem_toArray, List.getElem_cons_zero, List.getElem_cons_succ, Act.put, List.setIfInBounds_toArray, List.set_cons_zero, List.set_cons_succ]
                first | (refine wpAnyH_take (i := 18) (v := undef) rfl (by kernel_rfl) (by kernel_rfl) (by kernel_rfl) (fun _ _ _ h => h) (Or.inr ⟨by rfl, rfl⟩) (by assumption) ?_) | (refine wpAnyH_take (i := 18) (v := ?_) rfl (by kernel_rfl) (by kernel_rfl) (by kernel_rfl) (fun _ _ _ h => h) (Or.inl ⟨by rfl, ?_⟩) (by assumption) ?_; rotate_left; focus (intro w hSw; (try dsimp only at hSw); go_simp; try (with_reducible rfl); done))
                try simp only [List.getElem_toArray, List.getElem_cons_zero, List.getElem_cons_succ, Act.put, List.setIfInBounds_toArray, List.set_cons_zero, List.set_cons_succ]
                first | (refine wpAnyH_take (i := 19) (v := undef) rfl (by kernel_rfl) (by kernel_rfl) (by kernel_rfl) (fun _ _ _ h => h) (Or.inr ⟨by rfl, rfl⟩) (by assumption) ?_) | (refine wpAnyH_take (i := 19) (v := ?_) rfl (by kernel_rfl) (by kernel_rfl) (by kernel_rfl) (fun _ _ _ h => h) (Or.inl ⟨by rfl, ?_⟩) (by assumption) ?_; rotate_left; focus (intro w hSw; (try dsimp only at hSw); go_simp; try (with_reducible rfl); done))
                try simp only [List.getElem_toArray, List.getElem_cons_zero, List.getElem_cons_succ, Act.put, List.setIfInBounds_toArray, List.set_cons_zero, List.set_cons_succ]
                first | (refine wpAnyH_take (i := 20) (v := undef) rfl (by kernel_rfl) (by kernel_rfl) (by kernel_rfl) (fun _ _ _ h => h) (Or.inr ⟨by rfl, rfl⟩) (by assumption) ?_) | (refine wpAnyH_take (i := 20) (v := ?_) rfl (by kernel_rfl) (by kernel_rfl) (by kernel_rfl) (fun _ _ _ h => h) (Or.inl ⟨by rfl, ?_⟩) (by assumption) ?_; rotate_left; focus (intro w hSw; (try dsimp only at hSw); go_simp; try (with_reducible rfl); done))
                try simp only [List.getElem_toArray, List.getElem_cons_zero, List.getElem_cons_succ, Act.put, List.setIfInBounds_toArray, List.set_cons_zero, List.set_cons_succ]
                first | (refine wpAnyH_take (i := 21) (v := undef) rfl (by kernel_rfl) (by kernel_rfl) (by kernel_rfl) (fun _ _ _ h => h) (Or.inr ⟨by rfl, rfl⟩) (by assumption) ?_) | (refine wpAnyH_take (i := 21) (v := ?_) rfl (by kernel_rfl) (by kernel_rfl) (by kernel_rfl) (fun _ _ _ h => h) (Or.inl ⟨by rfl, ?_⟩) (by assumption) ?_; rotate_left; focus (intro w hSw; (try dsimp only at hSw); go_simp; try (with_reducible rfl); done))
                try simp only [List.getElem_toArray, List.getElem_cons_zero, List.getElem_cons_succ, Act.put, List.setIfInBounds_toArray, List.set_cons_zero, List.set_cons_succ]
                first | (refine wpAnyH_take (i := 22) (v := undef) rfl (by kernel_rfl) (by kernel_rfl) (by kernel_rfl) (fun _ _ _ h => h) (Or.inr ⟨by rfl, rfl⟩) (by assumption) ?_) | (refine wpAnyH_take (i := 22) (v := ?_) rfl (by kernel_rfl) (by kernel_rfl) (by kernel_rfl) (fun _ _ _ h => h) (Or.inl ⟨by rfl, ?_⟩) (by assumption) ?_; rotate_left; focus (intro w hSw; (try dsimp only at hSw); go_simp; try (with_reducible rfl); done))
                try simp only [List.getElem_toArray, List.getElem_cons_zero, List.getElem_cons_succ, Act.put, List.setIfInBounds_toArray, List.set_cons_zero, List.set_cons_succ]
                first | (refine wpAnyH_take (i := 23) (v := undef) rfl (by kernel_rfl) (by kernel_rfl) (by kernel_rfl) (fun _ _ _ h => h) (Or.inr ⟨by rfl, rfl⟩) (by assumption) ?_) | (refine wpAnyH_take (i := 23) (v := ?_) rfl (by kernel_rfl) (by kernel_rfl) (by kernel_rfl) (fun _ _ _ h => h) (Or.inl ⟨by rfl, ?_⟩) (by assumption) ?_; rotate_left; focus (intro w hSw; (try dsimp only at hSw); go_simp; try (with_reducible rfl); done))
                try simp only [List.getElem_toArray, List.getElem_cons_zero, List.getElem_cons_succ, Act.put, List.setIfInBounds_toArray, List.set_cons_zero, List.set_cons_succ]
                first | (refine wpAnyH_take (i := 24) (v := undef) rfl (by kernel_rfl) (by kernel_rfl) (by kernel_rfl) (fun _ _ _ h => h) (Or.inr ⟨by rfl, rfl⟩) (by assumption) ?_) | (refine wpAnyH_take (i := 24) (v := ?_) rfl (by kernel_rfl) (by kernel_rfl) (by kernel_rfl) (fun _ _ _ h => h) (Or.inl ⟨by rfl, ?_⟩) (by assumption) ?_; rotate_left; focus (intro w hSw; (try dsimp only at hSw); go_simp; try (with_reducible rfl); done))
                try simp only [List.getElem_toArray, List.getElem_cons_zero, List.getElem_cons_succ, Act.put, List.setIfInBounds_toArray, List.set_cons_zero, List.set_cons_succ]
                refine wpAnyH_take (i := 25) (v := ?_) rfl (by kernel_rfl) (by kernel_rfl) (by kernel_rfl) (fun _ _ _ h => h) (Or.inl ⟨by rfl, ?_⟩) (by assumption) ?_
                rotate_left; focus (intro w hSw; (try dsimp only at hSw); go_simp; try (with_reducible rfl); done)
                try simp only [List.getElem_toArray, List.getElem_cons_zero, List.getElem_cons_succ, Act.put, List.setIfInBounds_toArray, List.set_cons_zero, List.set_cons_succ]
                refine wpAnyH_done (by kernel_rfl) ?_ _
                clear x0 x1 x2 x3 x4 g0 g1 g2 s1 s2
                go_wp2
                go_roundg (l.length - (k + 1))
                case measure => have := HGK4.out; omega
                case rel => exact ⟨k + 1, vm, by omega, rfl, by go_num, rfl, by rw [HCN.out, HC.out]; exact HSTD.out.pick [2, 3, 4, 5, 6, 0, 1, 7, 8, 9, 10, 11] 12 rfl rfl⟩
            · obtain rfl : l.length = k := by omega
              have hck : Ll.candK l m T n col l.length = Ll.cand l m T n col := Ll.cand_def.symm
              rw [hck] at hst
              have hsm := Ll.out_small (m := m) (n := n) (col := col) HL40.out (show T ≤ 30 by omega) (show N ≤ 20 by omega) hlt hlc hk
              rw [hck] at hsm
              have hcl := Ll.candK_len (l := l) (m := m) (t := T) (n := n) (col := col) (k := l.length)
              rw [hck] at hcl
              have HRS := Lib.hid (Ll.rowK_succ (l := l) (m := m) (t := T) (n := n) (k := col))
              have HCLS := Lib.hid (Ll.clK_succ (l := l) (m := m) (t := T) (n := n) (k := col))
              have hrl : (((Ll.rowK l m T n col).map Ll.iV).length : Int) ≤ 31 := by rw [List.length_map, Ll.rowK_len]; omega
              clear hck
              generalize Ll.cand l m T n col = c at *
              have hci := Ll.ci_len (n := n) (col := col) (c := c)
              have hch := Ll.ci_head (c := c)
              rw [← hch] at HRS
              have hcli : ((Ll.ciOf c).length : Int) ≤ 41 := by
                have := Ll.clOf_len (n := n) (col := col) (c := c)
                omega
              have HCI := Lib.hid hci; have HCH := Lib.hid hch; have HSM := Lib.hid hsm
              clear hci hch hsm hcl
              obtain ⟨av, hav⟩ : ∃ av, (Ll.ciOf c).getD 0 0 = av := ⟨_, rfl⟩
              rw [hav] at HRS
              have HAV := Lib.hid hav
              cases c with
              | nil =>
                obtain ⟨ao, ca, rfl⟩ := (hst.ok _ (.head _)).isLen
                have hav1 : -1 = av := hav
                subst hav1
                clear hav
                have hstm := hst.drop.pushOwn ((Below.refl _ _).alloc (Nat.le_refl _) _) (own_lit (w := wr) (B := wr.heap.size) (e := 3) (k := .i64) #[.int .i64 (-1)] [-1] rfl rfl (Nat.le_refl _) (by decide))
                have HST := Lib.hid (hstm.pick (ρ := [aOwn 3 1 vrow ((Ll.rowK l m T n col).map Ll.iV), aOwn 3 1 (.slice (some ⟨wr.heap.size, 0, none⟩) 1 1) (([-1] : List Int).map (Value.int .i64)), aOwn 141 4 vc ((Ll.allK l m T n ++ Ll.clK l m T n col).map Ll.clV), aOwn 35 1 vr ((q.map Prod.fst).map Ll.slV), aAll (q.map Ll.aRow), Fc.aB (.slice (some ⟨gE, 0, none⟩) N N) E, Fc.aU (.slice (some ⟨gF, 0, none⟩) N N) Fs, aCel gB 88 #[.slice (some ⟨gE, 0, none⟩) N N, .slice (some ⟨gF, 0, none⟩) N N, .slice (some ⟨gW, 0, none⟩) N N, .slice (some ⟨gR, 0, none⟩) N N, .slice (some ⟨gM, 0, none⟩) N N], Fc.aU (.slice (some ⟨gW, 0, none⟩) N N) W, Fc.aB (.slice (some ⟨gR, 0, none⟩) N N) Rc, Fc.aB (.slice (some ⟨gM, 0, none⟩) N N) M, aCel w.heap.size 68 #[.int .i64 T, .int .i64 N, .slice ap l.length cp]]) [2, 0, 1, 3, 4, 5, 6, 7, 8, 9, 10, 11] 12 rfl rfl)
                have hz : ((([] : List Nat).map Ll.ofN).map Ll.iV).length = 0 := rfl
                rw [hz]
                have hc0 : (wr.alloc (.cells #[.int .i64 (-1)] 3)).cell? ⟨wr.heap.size, 0, none⟩ = some (.int .i64 (-1)) := by rw [World.cell?_alloc_new]; rfl
                clear hst hstm hz
                go_wp2_with (refine St.app1n (o := ⟨some 73, _, _, _, _, _⟩) intE ?n1 (.tmp 68) (.tmp 72) ?n2 ?n3 HST.out (.int .i64 (-1)) ?n4 (wr.heap.size + 1) 1 ?n5 ?n6 ?n7 ?n8 ?n9 ?n10 ?n11; (case n1 => rfl); (case n2 => rfl); (case n6 => (first | rfl | simp)); (case n7 => rfl); (case n4 => rfl); (case n3 => rfl); (case n5 => rfl); (case n8 => (intro q hq; simp [Value.cells] at hq; subst hq; rfl)); (case n9 => (unfold maxLen; omega)); (case n10 => omega); intro g' n' c' wA hstA; clear HST)
                clear g0 g1 g2 hc0
                generalize wr.heap.size = gz at *
                go_loopg [6, 12] (1 - 1) (fun gk6 v6 v12 wr6 => ∃ (j : Nat) (vc : Value), 1 ≤ j ∧ j ≤ 1 ∧ gk6 = 1 - j ∧ v12 = .int .i64 j ∧ vc = v6 ∧ St w wr6 [aOwn 141 4 vc ((Ll.allK l m T n ++ Ll.clK l m T n col ++ (Ll.clOf n col []).take (j - 1)).map Ll.clV), aOwn 3 1 (.slice (some ⟨g', 0, none⟩) n' c') ((Ll.rowK l m T n col).map Ll.iV ++ [.int .i64 (-1)]), aOwn 3 1 (.slice (some ⟨gz, 0, none⟩) 1 1) ((Ll.ciOf []).map Ll.iV), aOwn 35 1 vr ((q.map Prod.fst).map Ll.slV), aAll (q.map Ll.aRow), Fc.aB (.slice (some ⟨gE, 0, none⟩) N N) E, Fc.aU (.slice (some ⟨gF, 0, none⟩) N N) Fs, aCel gB 88 #[.slice (some ⟨gE, 0, none⟩) N N, .slice (some ⟨gF, 0, none⟩) N N, .slice (some ⟨gW, 0, none⟩) N N, .slice (some ⟨gR, 0, none⟩) N N, .slice (some ⟨gM, 0, none⟩) N N], Fc.aU (.slice (some ⟨gW, 0, none⟩) N N) W, Fc.aB (.slice (some ⟨gR, 0, none⟩) N N) Rc, Fc.aB (.slice (some ⟨gM, 0, none⟩) N N) M, aCel w.heap.size 68 #[.int .i64 T, .int .i64 N, .slice ap l.length cp]])
                case atStart => exact ⟨1, _, by omega, by omega, rfl, rfl, rfl, by rw [show (Ll.clOf n col []).take (1 - 1) = [] from rfl, List.append_nil]; exact hstA.pick [2, 0, 1, 3, 4, 5, 6, 7, 8, 9, 10, 11] 12 rfl rfl⟩
                case round =>
                  clear hstA
                  obtain ⟨j, vc, hj1, hj, hgk, rfl, rfl, hst⟩ := hrel
                  have HGK6 := Lib.hid hgk
                  clear hgk
                  by_cases hlj : j < 1
                  · have hlj2 : (j : Int) < 1 := by omega
                    exfalso; omega
                  · obtain rfl : 1 = j := by omega
                    have htk : (Ll.clOf n col []).take (1 - 1) = Ll.clOf n col [] := List.take_of_length_le (by have := HCI.out; simp [Ll.clOf])
                    rw [htk] at hst
                    have HST := Lib.hid hst
                    obtain ⟨g0, g1, g2⟩ := hst.at3 11 rfl
                    clear hst htk
                    go_wp2
                    go_roundg (T + 1 - (col + 1))
                    case measure => have := HGK3.out; omega
                    case rel => exact ⟨col + 1, vc, _, by omega, rfl, by go_num, rfl, rfl, by
                      rw [HCLS.out, HRS.out, ← List.append_assoc, List.map_append (l₁ := Ll.rowK l m T n col)]
                      exact HST.out.pick [0, 1, 3, 4, 5, 6, 7, 8, 9, 10, 11] 12 rfl rfl⟩

              | cons a r =>
                obtain ⟨ao, ca, rfl⟩ := (hst.ok _ (.head _)).isLen
                have hav1 : (a : Int) = av := hav
                subst hav1
                obtain ⟨gy, rfl⟩ := (hst.ok _ (.head _) : Own wr 0 3 1 _ _).addr (by simp)
                have hc0 := ((show St w wr (aOwn 3 1 (.slice (some ⟨gy, 0, none⟩) _ ca) ((Ll.ciOf (a :: r)).map Ll.iV) :: _) from hst).cellOwn (f := Ll.iV) (fun _ => rfl) 0 (by simp [Ll.ciOf]) 0).1
                rw [hav] at hc0
                replace hc0 : wr.cell? ⟨gy, 0, none⟩ = some (.int .i64 a) := hc0
                clear hav
                have hst2 := hst.pick (ρ := [aOwn 3 1 vrow ((Ll.rowK l m T n col).map Ll.iV), aOwn 3 1 (.slice (some ⟨gy, 0, none⟩) (((a :: r).map Ll.ofN).map Ll.iV).length ca) ((Ll.ciOf (a :: r)).map Ll.iV), aOwn 141 4 vc ((Ll.allK l m T n ++ Ll.clK l m T n col).map Ll.clV), aOwn 35 1 vr ((q.map Prod.fst).map Ll.slV), aAll (q.map Ll.aRow), Fc.aB (.slice (some ⟨gE, 0, none⟩) N N) E, Fc.aU (.slice (some ⟨gF, 0, none⟩) N N) Fs, aCel gB 88 #[.slice (some ⟨gE, 0, none⟩) N N, .slice (some ⟨gF, 0, none⟩) N N, .slice (some ⟨gW, 0, none⟩) N N, .slice (some ⟨gR, 0, none⟩) N N, .slice (some ⟨gM, 0, none⟩) N N], Fc.aU (.slice (some ⟨gW, 0, none⟩) N N) W, Fc.aB (.slice (some ⟨gR, 0, none⟩) N N) Rc, Fc.aB (.slice (some ⟨gM, 0, none⟩) N N) M, aCel w.heap.size 68 #[.int .i64 T, .int .i64 N, .slice ap l.length cp]]) [2, 0, 1, 3, 4, 5, 6, 7, 8, 9, 10, 11] 12 rfl rfl
                have hln : (((a :: r).map Ll.ofN).map Ll.iV).length = (Ll.ciOf (a :: r)).length := by simp [Ll.ciOf]
                have hl0 : (0 : Int) < ((Ll.ciOf (a :: r)).length : Int) := by simp [Ll.ciOf]
                have hl1 : (((Ll.ciOf (a :: r)).length : Int) == 0) = false := by rw [beq_eq_false_iff_ne]; omega
                rw [hln] at hst2 ⊢
                have HST := Lib.hid hst2
                clear hst hst2 hln
                generalize hLL : (Ll.ciOf (a :: r)).length = L at *
                have HLL := Lib.hid hLL
                clear hLL
                go_wp2_with (refine St.app1n (o := ⟨some 73, _, _, _, _, _⟩) intE ?c1 (.tmp 68) (.tmp 72) ?c2 ?c3 HST.out (.int .i64 ((a : Int))) ?c4 (wr.heap.size) 1 ?c5 ?c6 ?c7 ?c8 ?c9 ?c10 ?c11; (case c1 => rfl); (case c2 => rfl); (case c6 => (first | rfl | simp)); (case c7 => rfl); (case c4 => rfl); (case c3 => rfl); (case c5 => rfl); (case c8 => (intro q hq; simp [Value.cells] at hq; subst hq; rfl)); (case c9 => (unfold maxLen; omega)); (case c10 => omega); intro g' n' c' wA hstA; clear HST)
                clear g0 g1 g2 hc0
                go_loopg [6, 12] (L - 1) (fun gk6 v6 v12 wr6 => ∃ (j : Nat) (vc : Value), 1 ≤ j ∧ j ≤ L ∧ gk6 = L - j ∧ v12 = .int .i64 j ∧ vc = v6 ∧ St w wr6 [aOwn 141 4 vc ((Ll.allK l m T n ++ Ll.clK l m T n col ++ (Ll.clOf n col (a :: r)).take (j - 1)).map Ll.clV), aOwn 3 1 (.slice (some ⟨g', 0, none⟩) n' c') ((Ll.rowK l m T n col).map Ll.iV ++ [.int .i64 (a : Int)]), aOwn 3 1 (.slice (some ⟨gy, 0, none⟩) L ca) ((Ll.ciOf (a :: r)).map Ll.iV), aOwn 35 1 vr ((q.map Prod.fst).map Ll.slV), aAll (q.map Ll.aRow), Fc.aB (.slice (some ⟨gE, 0, none⟩) N N) E, Fc.aU (.slice (some ⟨gF, 0, none⟩) N N) Fs, aCel gB 88 #[.slice (some ⟨gE, 0, none⟩) N N, .slice (some ⟨gF, 0, none⟩) N N, .slice (some ⟨gW, 0, none⟩) N N, .slice (some ⟨gR, 0, none⟩) N N, .slice (some ⟨gM, 0, none⟩) N N], Fc.aU (.slice (some ⟨gW, 0, none⟩) N N) W, Fc.aB (.slice (some ⟨gR, 0, none⟩) N N) Rc, Fc.aB (.slice (some ⟨gM, 0, none⟩) N N) M, aCel w.heap.size 68 #[.int .i64 T, .int .i64 N, .slice ap l.length cp]])
                case atStart => exact ⟨1, _, by omega, by omega, rfl, rfl, rfl, by rw [show (Ll.clOf n col (a :: r)).take (1 - 1) = [] from rfl, List.append_nil]; exact hstA.pick [2, 0, 1, 3, 4, 5, 6, 7, 8, 9, 10, 11] 12 rfl rfl⟩
                case round =>
                  clear hstA
                  obtain ⟨j, vc, hj1, hj, hgk, rfl, rfl, hst⟩ := hrel
                  have HGK6 := Lib.hid hgk
                  clear hgk
                  by_cases hlj : j < L
                  · have hlj2 : (j : Int) < L := by omega
                    have hjc : j - 1 < (Ll.clOf n col (a :: r)).length := by have := HCI.out; omega
                    have hge := Ll.cl_get (n := n) (col := col) (c := (a :: r)) hjc
                    have htk := Ll.take_get hjc (0, 0, 0, 0)
                    rw [hge, ← HCH.out, HAV.out, show j - 1 + 1 = j by omega] at htk
                    have hmay := (show St w wr.drew (aOwn 3 1 (.slice (some ⟨gy, 0, none⟩) L ca) ((Ll.ciOf (a :: r)).map Ll.iV) :: _) from hst.drew.nth 2 rfl)
                    have hcl2 : (Ll.ciOf (a :: r)).length = L := HLL.out
                    have q0 := (hmay.cellOwn (f := Ll.iV) (fun _ => rfl) 0 (by omega) 0).1
                    have qj := (hmay.cellOwn (f := Ll.iV) (fun _ => rfl) j (by omega) 0).1
                    rw [HAV.out] at q0
                    have HQ0 := Lib.hid fun (W0 : World) (hs : St w W0 [aOwn 3 1 (.slice (some ⟨gy, 0, none⟩) L ca) ((Ll.ciOf (a :: r)).map Ll.iV)]) => (show W0.cell? ⟨gy, 0, none⟩ = some (.int .i64 (a : Int)) ∧ W0.cell? ⟨gy, j, none⟩ = some (.int .i64 ((Ll.ciOf (a :: r)).getD j 0)) from by
                      have h0 := (hs.cellOwn (f := Ll.iV) (fun _ => rfl) 0 (by omega) 0).1
                      have h1 := (hs.cellOwn (f := Ll.iV) (fun _ => rfl) j (by omega) 0).1
                      rw [HAV.out] at h0
                      exact ⟨h0, h1⟩)
                    generalize (Ll.ciOf (a :: r)).getD j 0 = bv at *
                    replace q0 : wr.drew.cell? ⟨gy, 0, none⟩ = some (.int .i64 (a : Int)) := q0
                    replace qj : wr.drew.cell? ⟨gy, j, none⟩ = some (.int .i64 bv) := qj
                    have hsmi : ((((Ll.allK l m T n ++ Ll.clK l m T n col) ++ (Ll.clOf n col (a :: r)).take (j - 1)).map Ll.clV).length : Int) ≤ 30000 := by
                      have := HSM.out
                      have h2 : ((Ll.clOf n col (a :: r)).take (j - 1)).length ≤ (Ll.clOf n col (a :: r)).length := by rw [List.length_take]; omega
                      simp only [List.length_map, List.length_append] at this ⊢
                      omega
                    have HTK := Lib.hid htk
                    have HSTD := Lib.hid hst.drew
                    clear hst hmay htk hge hjc hcl2
                    have hL0 : 0 < L := by omega
                    have q0w : wr.cell? ⟨gy, 0, none⟩ = some (.int .i64 (a : Int)) := q0
                    have qjw : wr.cell? ⟨gy, j, none⟩ = some (.int .i64 bv) := qj
                    go_wp2
                    refine wp_region_held_drew (S := (fun w' => w'.cell? ⟨gy, 0, none⟩ = some (.int .i64 (a : Int)) ∧ w'.cell? ⟨gy, j, none⟩ = some (.int .i64 bv))) (by kernel_rfl) ?_ (fun hHeld => ?_)
                    · (try dsimp only); (first | with_reducible exact ⟨q0, qj⟩ | exact ⟨bkeep ((Below.refl _ _).alloc (Nat.le_refl _) _) q0w, bkeep ((Below.refl _ _).alloc (Nat.le_refl _) _) qjw⟩ | exact ⟨q0, qj⟩)

                    refine wpAnyH_take (i := 0) (v := ?_) rfl (by kernel_rfl) (by kernel_rfl) (by kernel_rfl) (fun _ _ _ h => h) (Or.inl ⟨by rfl, ?_⟩) (by assumption) ?_
                    rotate_left; focus (intro w hSw; (try dsimp only at hSw); go_simp; try (with_reducible rfl); done)
                    try simp only [List.getElem_toArray, List.getElem_cons_zero, List.getElem_cons_succ, Act.put, List.setIfInBounds_toArray, List.set_cons_zero, List.set_cons_succ]
                    refine wpAnyH_take (i := 1) (v := ?_) rfl (by kernel_rfl) (by kernel_rfl) (by kernel_rfl) (fun _ _ _ h => h) (Or.inl ⟨by rfl, ?_⟩) (by assumption) ?_
                    rotate_left; focus (intro w hSw; (try dsimp only at hSw); go_simp; try (with_reducible rfl); done)
                    try simp only [List.getElem_toArray, List.getElem_cons_zero, List.getElem_cons_succ, Act.put, List.setIfInBounds_toArray, List.set_cons_zero, List.set_cons_succ]
                    refine wpAnyH_take (i := 2) (v := ?_) rfl (by kernel_rfl) (by kernel_rfl) (by kernel_rfl) (fun _ _ _ h => h) (Or.inl ⟨by rfl, ?_⟩) (by assumption) ?_
                    rotate_left; focus (intro w hSw; (try dsimp only at hSw); go_simp; try (with_reducible rfl); done)
                    try simp only [List.getElem_toArray, List.getElem_cons_zero, List.getElem_cons_succ, Act.put, List.setIfInBounds_toArray, List.set_cons_zero, List.set_cons_succ]
                    refine wpAnyH_take (i := 3) (v := ?_) rfl (by kernel_rfl) (by kernel_rfl) (by kernel_rfl) (fun _ _ _ h => h) (Or.inl ⟨by rfl, ?_⟩) (by assumption) ?_
                    rotate_left; focus (intro w hSw; (try dsimp only at hSw); go_simp; try (with_reducible rfl); done)
                    try simp only [List.getElem_toArray, List.getElem_cons_zero, List.getElem_cons_succ, Act.put, List.setIfInBounds_toArray, List.set_cons_zero, List.set_cons_succ]
                    refine wpAnyH_take (i := 4) (v := ?_) rfl (by kernel_rfl) (by kernel_rfl) (by kernel_rfl) (fun _ _ _ h => h) (Or.inl ⟨by rfl, ?_⟩) (by assumption) ?_
                    rotate_left; focus (intro w hSw; (try dsimp only at hSw); go_simp; try (with_reducible rfl); done)
                    try simp only [List.getElem_toArray, List.getElem_cons_zero, List.getElem_cons_succ, Act.put, List.setIfInBounds_toArray, List.set_cons_zero, List.set_cons_succ]
                    refine wpAnyH_take (i := 5) (v := ?_) rfl (by kernel_rfl) (by kernel_rfl) (by kernel_rfl) (fun _ _ _ h => h) (Or.inl ⟨by rfl, ?_⟩) (by assumption) ?_
                    rotate_left; focus (intro w hSw; (try dsimp only at hSw); go_simp; try (with_reducible rfl); done)
                    try simp only [List.getElem_toArray, List.getElem_cons_zero, List.getElem_cons_succ, Act.put, List.setIfInBounds_toArray, List.set_cons_zero, List.set_cons_succ]
                    refine wpAnyH_take (i := 6) (v := ?_) rfl (by kernel_rfl) (by kernel_rfl) (by kernel_rfl) (fun _ _ _ h => h) (Or.inl ⟨by rfl, ?_⟩) (by assumption) ?_
                    rotate_left; focus (intro w hSw; (try dsimp only at hSw); go_simp; try (with_reducible rfl); done)
                    try simp only [List.getElem_toArray, List.getElem_cons_zero, List.getElem_cons_succ, Act.put, List.setIfInBounds_toArray, List.set_cons_zero, List.set_cons_succ]
                    refine wpAnyH_take (i := 7) (v := ?_) rfl (by kernel_rfl) (by kernel_rfl) (by kernel_rfl) (fun _ _ _ h => h) (Or.inl ⟨by rfl, ?_⟩) (by assumption) ?_
                    rotate_left; focus (intro w hSw; (try dsimp only at hSw); go_simp; try (with_reducible rfl); done)
                    try simp only [List.getElem_toArray, List.getElem_cons_zero, List.getElem_cons_succ, Act.put, List.setIfInBounds_toArray, List.set_cons_zero, List.set_cons_succ]
                    refine wpAnyH_take (i := 8) (v := ?_) rfl (by kernel_rfl) (by kernel_rfl) (by kernel_rfl) (fun _ _ _ h => h) (Or.inl ⟨by rfl, ?_⟩) (by assumption) ?_
                    rotate_left; focus (intro w hSw; (try dsimp only at hSw); go_simp; try (with_reducible rfl); done)
                    try simp only [List.getElem_toArray, List.getElem_cons_zero, List.getElem_cons_succ, Act.put, List.setIfInBounds_toArray, List.set_cons_zero, List.set_cons_succ]
                    refine wpAnyH_take (i := 9) (v := ?_) rfl (by kernel_rfl) (by kernel_rfl) (by kernel_rfl) (fun _ _ _ h => h) (Or.inl ⟨by rfl, ?_⟩) (by assumption) ?_
                    rotate_left; focus (intro w hSw; (try dsimp only at hSw); go_simp; try (with_reducible rfl); done)
                    try simp only [List.getElem_toArray, List.getElem_cons_zero, List.getElem_cons_succ, Act.put, List.setIfInBounds_toArray, List.set_cons_zero, List.set_cons_succ]
                    refine wpAnyH_take (i := 10) (v := ?_) rfl (by kernel_rfl) (by kernel_rfl) (by kernel_rfl) (fun _ _ _ h => h) (Or.inl ⟨by rfl, ?_⟩) (by assumption) ?_
                    rotate_left; focus (intro w hSw; (try dsimp only at hSw); go_simp; try (with_reducible rfl); done)
                    try simp only [List.getElem_toArray, List.getElem_cons_zero, List.getElem_cons_succ, Act.put, List.setIfInBounds_toArray, List.set_cons_zero, List.set_cons_succ]
                    refine wpAnyH_ready (rs := [11]) (by kernel_rfl) (by simp) ?_
                    refine AllReadyH.cons rfl (fun K hK => ?_) AllReadyH.nil
                    go_simp
                    refine hK.out _ _ ?_ (fun hHeld => ?_)
                    · (try dsimp only); (first | with_reducible exact ⟨q0, qj⟩ | exact ⟨bkeep ((Below.refl _ _).alloc (Nat.le_refl _) _) q0w, bkeep ((Below.refl _ _).alloc (Nat.le_refl _) _) qjw⟩ | exact ⟨q0, qj⟩)
                    clear hK K
                    try simp only [List.getElem_toArray, List.getElem_cons_zero, List.getElem_cons_succ, Act.put, List.setIfInBounds_toArray, List.set_cons_zero, List.set_cons_succ]
                    refine wpAnyH_ready (rs := [12]) (by kernel_rfl) (by simp) ?_
                    refine AllReadyH.cons rfl (fun K hK => ?_) AllReadyH.nil
                    (refine St.step1n Ll.clE ?d1 (.tmp 80) (.tmp 91) ?d2 ?d3 HSTD.out (Ll.clV ((n : Int), (col : Int), (a : Int), bv)) ?d4 wr.heap.size 1 ?d5 ?d6 ?d7 ?d8 ?d9 ?d10 ?d11; (case d1 => rfl); (case d2 => rfl); (case d6 => rfl); (case d7 => rfl); (case d4 => rfl); (case d3 => rfl); (case d5 => rfl); (case d8 => exact Ll.clV_one _); (case d9 => (unfold maxLen; omega)); (case d10 => omega); intro g2' n2' c2' wB hstB; obtain ⟨q0, qj⟩ := HQ0.out _ (hstB.nth 2 rfl))
                    refine hK.out _ _ ?_ (fun hHeld => ?_)
                    · (try dsimp only); (first | with_reducible exact ⟨q0, qj⟩ | exact ⟨bkeep ((Below.refl _ _).alloc (Nat.le_refl _) _) q0w, bkeep ((Below.refl _ _).alloc (Nat.le_refl _) _) qjw⟩ | exact ⟨q0, qj⟩)
                    clear hK K
                    try simp only [List.getElem_toArray, List.getElem_cons_zero, List.getElem_cons_succ, Act.put, List.setIfInBounds_toArray, List.set_cons_zero, List.set_cons_succ]
                    refine wpAnyH_take (i := 13) (v := ?_) rfl (by kernel_rfl) (by kernel_rfl) (by kernel_rfl) (fun _ _ _ h => h) (Or.inl ⟨by rfl, ?_⟩) (by assumption) ?_
                    rotate_left; focus (intro w hSw; (try dsimp only at hSw); go_simp; try (with_reducible rfl); done)
                    try simp only [List.getElem_toArray, List.getElem_cons_zero, List.getElem_cons_succ, Act.put, List.setIfInBounds_toArray, List.set_cons_zero, List.set_cons_succ]
                    refine wpAnyH_done (by kernel_rfl) ?_ _
                    clear q0 qj q0w qjw HQ0 HSTD
                    go_wp2
                    go_roundg (L - (j + 1))
                    case measure => have := HGK6.out; omega
                    case rel => exact ⟨j + 1, _, by omega, by omega, rfl, by go_num, rfl, by
                      have e : (Ll.allK l m T n ++ Ll.clK l m T n col ++ (Ll.clOf n col (a :: r)).take (j - 1)).map Ll.clV ++ [Ll.clV ((n : Int), (col : Int), (a : Int), bv)] = (Ll.allK l m T n ++ Ll.clK l m T n col ++ (Ll.clOf n col (a :: r)).take (j + 1 - 1)).map Ll.clV := by
                        rw [show j + 1 - 1 = j by omega, HTK.out]; simp
                      rw [← e]
                      exact hstB⟩
                  · obtain rfl : L = j := by omega
                    have htk : (Ll.clOf n col (a :: r)).take (L - 1) = Ll.clOf n col (a :: r) := List.take_of_length_le (by have := HCI.out; omega)
                    rw [htk] at hst
                    have HST := Lib.hid hst
                    obtain ⟨g0, g1, g2⟩ := hst.at3 11 rfl
                    clear hst htk
                    go_wp2
                    go_roundg (T + 1 - (col + 1))
                    case measure => have := HGK3.out; omega
                    case rel => exact ⟨col + 1, vc, _, by omega, rfl, by go_num, rfl, rfl, by
                      rw [HCLS.out, HRS.out, ← List.append_assoc, List.map_append (l₁ := Ll.rowK l m T n col)]
                      exact HST.out.pick [0, 1, 3, 4, 5, 6, 7, 8, 9, 10, 11] 12 rfl rfl⟩

        · obtain rfl : col = T + 1 := by omega
          have hcast : ((T + 1 : Nat) : Int) = (T : Int) + 1 := by omega
          rw [hcast]
          clear hcast
          obtain ⟨ao, ca, rfl⟩ := (hst.ok _ (.tail _ (.head _)) : Own wr 0 3 1 _ _).isLen
          have HRS := Lib.hid (Ll.rowsK_succ (l := l) (m := m) (t := T) (k := n))
          have HAS := Lib.hid (Ll.allK_succ (l := l) (m := m) (t := T) (k := n))
          have hql : ((((q.map Prod.fst).map Ll.slV).length : Nat) : Int) ≤ 20 := by rw [List.length_map, List.length_map, HQL.out]; omega
          have hst2 := hst.pick (ρ := aOwn 35 1 vr ((q.map Prod.fst).map Ll.slV) :: _) [2, 0, 1, 3, 4, 5, 6, 7, 8, 9, 10] 11 rfl rfl
          generalize hLR : ((Ll.rowK l m T n (T + 1)).map Ll.iV).length = LR at *
          clear hLR
          have HST := Lib.hid hst2
          clear hst hst2
          go_wp2_with (refine St.app1n (o := ⟨some 96, _, _, _, _, _⟩) Ll.slE ?e1 (.tmp 93) (.tmp 95) ?e2 ?e3 HST.out (Ll.slV (ao, LR, ca)) ?e4 wr.heap.size 1 ?e5 ?e6 ?e7 ?e8 ?e9 ?e10 ?e11; (case e1 => rfl); (case e2 => rfl); (case e6 => rfl); (case e7 => rfl); (case e4 => rfl); (case e3 => rfl); (case e5 => rfl); (case e8 => (intro q hq; simp [Ll.slV, Value.cells] at hq; subst hq; rfl)); (case e9 => (unfold maxLen; omega)); (case e10 => omega); intro g' n' c' wA hstA; clear HST)
          go_roundg (N - (n + 1))
          case measure => have := HGK.out; omega
          case rel =>
            refine ⟨n + 1, _, vc, q ++ [((ao, LR, ca), Ll.rowK l m T n (T + 1))], by omega, rfl, by go_num, rfl, rfl, Lib.hid (by rw [List.map_append, HQ.out, HRS.out]; rfl), ?_⟩
            have h1 := (hstA.pick (ρ := Ll.aRow ((ao, LR, ca), Ll.rowK l m T n (T + 1)) :: aAll (q.map Ll.aRow) :: _) [2, 3, 1, 0, 4, 5, 6, 7, 8, 9, 10] 11 rfl rfl).snoc
            have e1 : q.map Ll.aRow ++ [Ll.aRow ((ao, LR, ca), Ll.rowK l m T n (T + 1))] = (q ++ [((ao, LR, ca), Ll.rowK l m T n (T + 1))]).map Ll.aRow := by simp
            have e2 : (q.map Prod.fst).map Ll.slV ++ [Ll.slV (ao, LR, ca)] = ((q ++ [((ao, LR, ca), Ll.rowK l m T n (T + 1))]).map Prod.fst).map Ll.slV := by simp
            rw [e1, e2] at h1
            rw [HAS.out]
            exact h1.pick [1, 2, 0, 3, 4, 5, 6, 7, 8, 9] 10 rfl rfl
    · obtain rfl : N = n := by omega
      have HST := Lib.hid hst
      clear hst
      go_wp2
      refine bodyPost_ret (v := .tuple #[vr, vc]) (by simp [results, Try.results69, go_sem]) rfl ?_
      refine ⟨E, Fs, W, Rc, M, vr, vc, q, rfl, HG, Lib.hid (by rw [HM.out]; exact HQ.out), ?_⟩
      rw [HM.out]
      exact HST.out.pick [1, 2, 0] 10 rfl rfl
end Go.Proofs.Ytldapomcjfkeeaa
