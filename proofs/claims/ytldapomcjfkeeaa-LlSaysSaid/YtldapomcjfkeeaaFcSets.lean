/-
  sets of package facts.
-/
import Derived.Test.YtldapomcjfkeeaaFcRound
import Derived.Test.YtldapomcjfkeeaaFcProgN
import Derived.Test.YtldapomcjfkeeaaSepPick
namespace Go.Proofs.Ytldapomcjfkeeaa
set_option linter.unusedVariables false
set_option linter.unusedSimpArgs false
open Go.ChangeShapes Go.WideShapes Go.ChangeAt Go.RowKit

theorem St.get7 {w0 w : World} {μ : List Asrt} {A B C D E F G : Asrt} (h : St w0 w (A :: B :: C :: D :: E :: F :: G :: μ)) : St w0 w (G :: A :: B :: C :: D :: E :: F :: μ) :=
  h.perm (by
    have := (List.perm_middle (l₁ := [A, B, C, D, E, F]) (l₂ := μ) (a := G))
    simpa using this)
namespace Fc
theorem iter_len {f : List Nat → List Nat} (h : ∀ W, (f W).length = W.length) : ∀ {j : Nat} {W : List Nat}, (iter f j W).length = W.length := by
  intro j
  induction j with
  | zero => intro W; rfl
  | succ j ih => intro W; rw [iter, ih, h]
theorem iter_lt {f : List Nat → List Nat} (P : List Nat → Prop) (h : ∀ W, P W → P (f W)) : ∀ {j : Nat} {W : List Nat}, P W → P (iter f j W) := by
  intro j
  induction j with
  | zero => intro W hW; exact hW
  | succ j ih => intro W hW; exact ih (h W hW)
theorem rdF_lt {E M : List Bool} {k : Nat} {l : List Pr} : (∀ p ∈ l, ∀ x ∈ p.2, x.1 = 1 → x.2.toNat < k) → ∀ {F : List Nat}, (∀ i, F.getD i 0 < 2 ^ k) → ∀ i, (rdF E M l F).getD i 0 < 2 ^ k := by
  induction l with
  | nil => intro _ F hF; exact hF
  | cons p l ih =>
    intro hl F hF
    rw [rdF_cons]
    refine ih (fun q hq => hl q (.tail _ hq)) ?_
    split
    · exact up_lt hF (beg_lt hF (Nat.two_pow_pos k) (hl p (.head _)))
    · exact hF
theorem folB_lt {E : List Bool} {F : List Nat} {k h : Nat} (hF : ∀ i, F.getD i 0 < 2 ^ k) {r : List (Int × Int)} : (∀ x ∈ r, x.1 = 1 → x.2.toNat < k) → ∀ {W : List Nat}, (∀ i, W.getD i 0 < 2 ^ k) → ∀ i, (folB E F h r W).getD i 0 < 2 ^ k := by
  induction r with
  | nil => intro _ W hW; exact hW
  | cons x r ih =>
    intro hx W hW
    rw [folB_cons]
    refine ih (fun y hy => hx y (.tail _ hy)) ?_
    split
    · exact up_lt hW (beg_lt hF (hW h) (fun y hy => hx y (.tail _ hy)))
    · exact hW
theorem fol_lt {E : List Bool} {F : List Nat} {k : Nat} (hF : ∀ i, F.getD i 0 < 2 ^ k) {l : List Pr} : (∀ p ∈ l, ∀ x ∈ p.2, x.1 = 1 → x.2.toNat < k) → ∀ {W : List Nat}, (∀ i, W.getD i 0 < 2 ^ k) → ∀ i, (fol E F l W).getD i 0 < 2 ^ k := by
  induction l with
  | nil => intro _ W hW; exact hW
  | cons p l ih =>
    intro hl W hW
    exact ih (fun q hq => hl q (.tail _ hq)) (folB_lt hF (hl p (.head _)) hW)
theorem okP_lt {n : Nat} {p : Pr} (h : okP n p) : ∀ x ∈ p.2, x.1 = 1 → x.2.toNat < 64 := by
  intro x hx h1
  rcases h.2.2 x hx with ⟨-, a, b⟩ | ⟨a, -⟩
  · omega
  · omega
end Fc

set_option maxRecDepth 100000 in
set_option maxHeartbeats 1600000 in
theorem fcSets_any (w0 w : World) (t n : Int) (vp : Value) (l : List Fc.Pr) (N gE nE cE gF nF cF gW nW cW gM nM cM : Nat) (vR : Value) (E M : List Bool) (X Y : List Nat) (μ : List Asrt) (F : Nat → Prop) (hp : Enc.prods.R F w0 [vp] l) (hl : l.length ≤ 40) (hok : ∀ p ∈ l, Fc.okP N p) (hE : E.length = N) (hM : M.length = N) (hX : X.length = N) (hY : Y.length = N) (hnE : nE = N) (hnM : nM = N) (hnF : nF = N) (hnW : nW = N)
    (hXb : ∀ i, X.getD i 0 < 2 ^ 64) (hYb : ∀ i, Y.getD i 0 < 2 ^ 64)
    (hst : St w0 w (Fc.aU (.slice (some ⟨gF, 0, none⟩) nF cF) X :: Fc.aU (.slice (some ⟨gW, 0, none⟩) nW cW) Y :: Fc.aB (.slice (some ⟨gM, 0, none⟩) nM cM) M :: Fc.aB (.slice (some ⟨gE, 0, none⟩) nE cE) E :: μ)) :
    Calls Try.prog 105 #[.agg #[.int .i64 t, .int .i64 n, vp], .agg #[.slice (some ⟨gE, 0, none⟩) nE cE, .slice (some ⟨gF, 0, none⟩) nF cF, .slice (some ⟨gW, 0, none⟩) nW cW, vR, .slice (some ⟨gM, 0, none⟩) nM cM]] w fun e w' => ∃ j q, e = .returned (.tuple #[]) ∧
      Fc.rdF E M l (Fc.iter (Fc.rdF E M l) j X) = Fc.iter (Fc.rdF E M l) j X ∧ Fc.fol E (Fc.iter (Fc.rdF E M l) j X) l (Fc.iter (Fc.fol E (Fc.iter (Fc.rdF E M l) j X) l) q Y) = Fc.iter (Fc.fol E (Fc.iter (Fc.rdF E M l) j X) l) q Y ∧
      St w0 w' (Fc.aU (.slice (some ⟨gF, 0, none⟩) nF cF) (Fc.iter (Fc.rdF E M l) j X) :: Fc.aU (.slice (some ⟨gW, 0, none⟩) nW cW) (Fc.iter (Fc.fol E (Fc.iter (Fc.rdF E M l) j X) l) q Y) :: Fc.aB (.slice (some ⟨gM, 0, none⟩) nM cM) M :: Fc.aB (.slice (some ⟨gE, 0, none⟩) nE cE) E :: μ) := by
  obtain ⟨ap, bp, op, cp, rfl, -, p3, p4⟩ := slProds hp
  have P3 := Lib.hid p3; have P4 := Lib.hid p4; have HOK := Lib.hid hok; have HE := Lib.hid hE; have HM := Lib.hid hM; have HX := Lib.hid hX; have HY := Lib.hid hY; have HNE := Lib.hid hnE; have HNM := Lib.hid hnM; have HNF := Lib.hid hnF; have HNW := Lib.hid hnW; have HXB := Lib.hid hXb; have HYB := Lib.hid hYb
  have hst1 := ((hst.alloc #[.int .i64 t, .int .i64 n, .slice ap l.length cp] 68).alloc #[.slice (some ⟨gE, 0, none⟩) nE cE, .slice (some ⟨gF, 0, none⟩) nF cF, .slice (some ⟨gW, 0, none⟩) nW cW, vR, .slice (some ⟨gM, 0, none⟩) nM cM] 88)
  simp only [World.size_alloc] at hst1
  have HST := Lib.hid hst1
  clear hst hst1 hp p3 p4 hok hE hM hX hY hnE hnM hnF hnW hXb hYb
  go_enter Try.func105, Try.ntmps105
  go_wp2
  have HST0 := HST
  go_loopg [4] (Fc.room (2 ^ 64) X + 1) (fun gk mv wr => ∃ (j : Nat) (m : Bool), mv = .bool m ∧ gk = Fc.room (2 ^ 64) (Fc.iter (Fc.rdF E M l) j X) + (if m = true then 1 else 0) ∧ Hid (m = false → Fc.rdF E M l (Fc.iter (Fc.rdF E M l) j X) = Fc.iter (Fc.rdF E M l) j X) ∧ St w0 wr (aCel (w.heap.size + 1) 88 #[.slice (some ⟨gE, 0, none⟩) nE cE, .slice (some ⟨gF, 0, none⟩) nF cF, .slice (some ⟨gW, 0, none⟩) nW cW, vR, .slice (some ⟨gM, 0, none⟩) nM cM] :: aCel w.heap.size 68 #[.int .i64 t, .int .i64 n, .slice ap l.length cp] :: Fc.aU (.slice (some ⟨gF, 0, none⟩) nF cF) (Fc.iter (Fc.rdF E M l) j X) :: Fc.aU (.slice (some ⟨gW, 0, none⟩) nW cW) Y :: Fc.aB (.slice (some ⟨gM, 0, none⟩) nM cM) M :: Fc.aB (.slice (some ⟨gE, 0, none⟩) nE cE) E :: μ))
  case atStart => exact ⟨0, true, rfl, by simp [Fc.iter], Lib.hid (by simp), HST.out⟩
  case round =>
    clear HST
    rename World => wo
    obtain ⟨j, m, rfl, hgk, HFX, hst⟩ := hrel
    have HGK := Lib.hid hgk
    have HST := Lib.hid hst
    clear hgk hst
    cases m
    · have hfx := HFX.out rfl
      obtain ⟨Xf, hXf⟩ : ∃ Xf, Fc.iter (Fc.rdF E M l) j X = Xf := ⟨_, rfl⟩
      have hXl : Xf.length = N := by rw [← hXf, Fc.iter_len (fun W => Fc.rdF_len)]; exact HX.out
      have hXt : ∀ i, Xf.getD i 0 < 2 ^ 64 := by rw [← hXf]; exact Fc.iter_lt (fun W => ∀ i, W.getD i 0 < 2 ^ 64) (fun W hW => Fc.rdF_lt (fun p hp => Fc.okP_lt (HOK.out p hp)) hW) HXB.out
      rw [hXf] at hfx HST
      have HXF := Lib.hid hXf; have HXL := Lib.hid hXl; have HXT := Lib.hid hXt; have HFX2 := Lib.hid hfx
      clear HFX hXf hXl hXt hfx HGK HST0
      go_wp2
      go_loopg [7] (Fc.room (2 ^ 64) Y + 1) (fun gk mv wr => ∃ (q : Nat) (m : Bool), mv = .bool m ∧ gk = Fc.room (2 ^ 64) (Fc.iter (Fc.fol E Xf l) q Y) + (if m = true then 1 else 0) ∧ Hid (m = false → Fc.fol E Xf l (Fc.iter (Fc.fol E Xf l) q Y) = Fc.iter (Fc.fol E Xf l) q Y) ∧ St w0 wr (aCel (w.heap.size + 1) 88 #[.slice (some ⟨gE, 0, none⟩) nE cE, .slice (some ⟨gF, 0, none⟩) nF cF, .slice (some ⟨gW, 0, none⟩) nW cW, vR, .slice (some ⟨gM, 0, none⟩) nM cM] :: aCel w.heap.size 68 #[.int .i64 t, .int .i64 n, .slice ap l.length cp] :: Fc.aU (.slice (some ⟨gF, 0, none⟩) nF cF) Xf :: Fc.aU (.slice (some ⟨gW, 0, none⟩) nW cW) (Fc.iter (Fc.fol E Xf l) q Y) :: Fc.aB (.slice (some ⟨gM, 0, none⟩) nM cM) M :: Fc.aB (.slice (some ⟨gE, 0, none⟩) nE cE) E :: μ))
      case atStart => exact ⟨0, true, rfl, by simp [Fc.iter], Lib.hid (by simp), HST.out⟩
      case round =>
        clear HST
        obtain ⟨q, m, rfl, hgk, HFX, hst⟩ := hrel
        have HGK := Lib.hid hgk
        have HST := Lib.hid hst
        clear hgk hst
        cases m
        · have HQ := Lib.hid (HFX.out rfl)
          clear HFX
          go_wp2
          refine bodyPost_end (v := .tuple #[]) (by simp [results, Try.results105, go_sem]) rfl ?_
          exact ⟨j, q, rfl, by rw [HXF.out]; exact HFX2.out, by rw [HXF.out]; exact HQ.out, by rw [HXF.out]; exact HST.out.drop.drop⟩
        · clear HFX
          have hlX : (Fc.iter (Fc.fol E Xf l) q Y).length = N := by rw [Fc.iter_len (fun W => Fc.fol_len)]; exact HY.out
          have hXlt : ∀ i, (Fc.iter (Fc.fol E Xf l) q Y).getD i 0 < 2 ^ 64 := Fc.iter_lt (fun W => ∀ i, W.getD i 0 < 2 ^ 64) (fun W hW => Fc.fol_lt HXT.out (fun p hp => Fc.okP_lt (HOK.out p hp)) hW) HYB.out
          have hit : Fc.iter (Fc.fol E Xf l) (q + 1) Y = Fc.fol E Xf l (Fc.iter (Fc.fol E Xf l) q Y) := by rw [Fc.iter_add]; rfl
          have HLX := Lib.hid hlX; have HXLT := Lib.hid hXlt; have HIT := Lib.hid hit
          generalize Fc.iter (Fc.fol E Xf l) q Y = Yq at *
          obtain ⟨g0, g1, g2⟩ := HST.out.at3 1 rfl
          clear hlX hXlt hit
          go_wp2
          clear g0 g1 g2
          go_loopg [7, 42] l.length (fun gk2 mv i wr2 => ∃ (k : Nat) (m : Bool), k ≤ l.length ∧ gk2 = l.length - k ∧ i = .int .i64 k ∧ mv = .bool m ∧ Hid ((Fc.fol E Xf (l.take k) Yq).length = N ∧ (∀ i, (Fc.fol E Xf (l.take k) Yq).getD i 0 < 2 ^ 64)) ∧ Hid (Fc.ProgN (2 ^ 64) Yq (Fc.fol E Xf (l.take k) Yq) m) ∧ St w0 wr2 (aCel (w.heap.size + 1) 88 #[.slice (some ⟨gE, 0, none⟩) nE cE, .slice (some ⟨gF, 0, none⟩) nF cF, .slice (some ⟨gW, 0, none⟩) nW cW, vR, .slice (some ⟨gM, 0, none⟩) nM cM] :: aCel w.heap.size 68 #[.int .i64 t, .int .i64 n, .slice ap l.length cp] :: Fc.aU (.slice (some ⟨gF, 0, none⟩) nF cF) Xf :: Fc.aU (.slice (some ⟨gW, 0, none⟩) nW cW) (Fc.fol E Xf (l.take k) Yq) :: Fc.aB (.slice (some ⟨gM, 0, none⟩) nM cM) M :: Fc.aB (.slice (some ⟨gE, 0, none⟩) nE cE) E :: μ))
          case atStart => exact ⟨0, false, by omega, by omega, rfl, rfl, Lib.hid ⟨HLX.out, HXLT.out⟩, Lib.hid (Fc.ProgN.refl _ _), HST.out⟩
          case round =>
            clear HST
            obtain ⟨k, m, hk, hgk2, rfl, rfl, HLB, HPN, hst⟩ := hrel
            have HGK2 := Lib.hid hgk2
            clear hgk2
            by_cases hlt : k < l.length
            · obtain ⟨rfl, _, _⟩ := P3.out (by omega)
              obtain ⟨vb, s1, s2, hbody, -⟩ := P4.out k hlt
              have hokp := HOK.out (l.getD k (0, [])) (by rw [show l.getD k (0, []) = l[k] by simp [List.getD, List.getElem?_eq_getElem hlt]]; exact List.getElem_mem hlt)
              have hsF := Fc.fol_step (E := E) (F := Xf) (X := Yq) hlt
              generalize l.getD k (0, []) = p at *
              obtain ⟨h0, body⟩ := p
              simp only at s1 s2 hbody hsF
              have hpb := hokp.2.2
              obtain ⟨hp0, hp1, -⟩ := hokp
              simp only at hp0 hp1 hpb
              obtain ⟨h, rfl⟩ := Int.eq_ofNat_of_zero_le hp0
              rw [Int.toNat_natCast] at hsF
              have HSF := Lib.hid hsF; have HBODY := Lib.hid hbody; have HPB := Lib.hid hpb
              generalize Fc.fol E Xf (l.take k) Yq = Yk at *
              have hlt2 : (k : Int) < l.length := by omega
              have s1 := bkeep hst.bel s1
              have s2 := bkeep hst.bel s2
              obtain ⟨ab, bb, ob, cb, rfl, hbl, b3, b4⟩ := slTwo hbody
              have B3 := Lib.hid b3; have B4 := Lib.hid b4
              have hbl2 : (body.length : Int) ≤ 140737488355328 := by omega
              have HST := Lib.hid (hst.alloc #[.int .i64 h, .slice ab body.length cb] 186)
              obtain ⟨p0, p1⟩ := HST.out.at2 0 rfl
              rename World => wp
              clear hst hsF hbody hpb hp0 hbl b3 b4
              go_wp2
              clear p0 p1
              go_loopg [7, 49] body.length (fun gk3 mv i wr3 => ∃ (d : Nat) (m2 : Bool) (Wd : List Nat), d ≤ body.length ∧ gk3 = body.length - d ∧ i = .int .i64 d ∧ mv = .bool m2 ∧ Hid (Wd.length = N ∧ (∀ i, Wd.getD i 0 < 2 ^ 64)) ∧ Hid (Fc.folB E Xf h (body.drop d) Wd = Fc.folB E Xf h body Yk) ∧ Hid (Fc.ProgN (2 ^ 64) Yq Wd m2) ∧ St w0 wr3 (aCel wp.heap.size 186 #[.int .i64 h, .slice ab body.length cb] :: aCel (w.heap.size + 1) 88 #[.slice (some ⟨gE, 0, none⟩) nE cE, .slice (some ⟨gF, 0, none⟩) nF cF, .slice (some ⟨gW, 0, none⟩) nW cW, vR, .slice (some ⟨gM, 0, none⟩) nM cM] :: aCel w.heap.size 68 #[.int .i64 t, .int .i64 n, .slice (some ⟨bp, op, none⟩) l.length cp] :: Fc.aU (.slice (some ⟨gF, 0, none⟩) nF cF) Xf :: Fc.aU (.slice (some ⟨gW, 0, none⟩) nW cW) Wd :: Fc.aB (.slice (some ⟨gM, 0, none⟩) nM cM) M :: Fc.aB (.slice (some ⟨gE, 0, none⟩) nE cE) E :: μ))
              case atStart => exact ⟨0, m, Yk, by omega, by omega, rfl, rfl, HLB, Lib.hid rfl, HPN, HST.out⟩
              case round =>
                clear HST HPN HLB
                obtain ⟨d, m2, Wd, hd, hgk3, rfl, rfl, HLB, HFB, HPN, hst⟩ := hrel
                have HGK3 := Lib.hid hgk3
                clear hgk3
                by_cases hlt3 : d < body.length
                · obtain ⟨rfl, _, _⟩ := B3.out (by omega)
                  obtain ⟨s1, s2, -, -⟩ := B4.out d hlt3
                  have hdr := Fc.drop_at hlt3 (0, 0)
                  have hxx := HPB.out (body.getD d (0, 0)) (by rw [show body.getD d (0, 0) = body[d] by simp [List.getD, List.getElem?_eq_getElem hlt3]]; exact List.getElem_mem hlt3)
                  have hfb := HFB.out
                  rw [hdr, Fc.folB_cons] at hfb
                  generalize body.getD d (0, 0) = x at *
                  obtain ⟨x1, x2⟩ := x
                  simp only at s1 s2 hxx hfb
                  have c1 := bkeep hst.bel s1
                  have c2 := bkeep hst.bel s2
                  have hlt4 : (d : Int) < body.length := by omega
                  have lb := World.block_lt_of_cell? _ _ c1
                  rcases hxx with ⟨rfl, h0, -⟩ | ⟨rfl, h0, h1⟩
                  · rw [if_neg (by decide)] at hfb
                    have HFB2 := Lib.hid hfb
                    have HST := Lib.hid (hst.skip (.cells #[.int .i64 1, .int .i64 x2] 96))
                    clear s1 s2 hst hfb hdr HFB
                    go_wp2
                    go_roundg (body.length - (d + 1))
                    case measure => have := HGK3.out; omega
                    case rel => exact ⟨d + 1, m2, Wd, by omega, rfl, by go_num, rfl, HLB, HFB2, HPN, HST.out⟩
                  · obtain ⟨y, rfl⟩ := Int.eq_ofNat_of_zero_le h0
                    rw [if_pos rfl, Int.toNat_natCast] at hfb
                    have hy : y < Wd.length := by rw [HLB.out.1]; omega
                    have hh : h < Wd.length := by rw [HLB.out.1]; omega
                    have hhn : (h : Int) < nW := by have := HNW.out; omega
                    have hencb : (Enc.two.sl 16).R F w0 [Go.sliced (some ⟨bb, ob, none⟩) (d + 1) body.length cb 2] (body.drop (d + 1)) := by
                      have := Enc.sliced HBODY.out (d + 1) body.length (by omega) (Nat.le_refl _)
                      rw [List.take_length] at this
                      exact this
                    have hbg := Fc.beg_lt (E := E) (b := Wd.getD h 0) (body := body.drop (d + 1)) HXT.out (HLB.out.2 h) (fun x hx h1 => by rcases HPB.out x (List.mem_of_mem_drop hx) with ⟨-, a, b⟩ | ⟨a, -⟩ <;> omega)
                    have hpn := HPN.out.up (i := y) (b := Fc.beg E Xf (Wd.getD h 0) (body.drop (d + 1))) hy (Nat.or_lt_two_pow (HLB.out.2 y) hbg)
                    have hlb : (Fc.up Wd y (Fc.beg E Xf (Wd.getD h 0) (body.drop (d + 1)))).length = N ∧ (∀ i, (Fc.up Wd y (Fc.beg E Xf (Wd.getD h 0) (body.drop (d + 1)))).getD i 0 < 2 ^ 64) := ⟨by rw [Fc.up_len]; exact HLB.out.1, Fc.up_lt HLB.out.2 hbg⟩
                    have HBEG := Lib.hid fun W μ hs => fcBegin_any w0 W gE nE cE gF nF cF E Xf (.slice (some ⟨gW, 0, none⟩) nW cW) vR (.slice (some ⟨gM, 0, none⟩) nM cM) (Go.sliced (some ⟨bb, ob, none⟩) (d + 1) body.length cb 2) (Wd.getD h 0) (body.drop (d + 1)) μ F (by rw [HNE.out, HE.out]) (by rw [HNF.out, HXL.out]) (by rw [HXL.out, HE.out]) (fun i => HXT.out i) (HLB.out.2 h) hencb (fun x hx => by rw [HE.out]; rcases HPB.out x (List.mem_of_mem_drop hx) with ⟨a, b, c⟩ | ⟨a, b, c⟩; exact .inl ⟨a, b, by omega⟩; exact .inr ⟨a, b, c⟩) (hst := hs)
                    have hbc : body.length ≤ cb := by
                      obtain ⟨_, _, _, _, hq, hle, _⟩ := HBODY.out
                      simp only [List.cons.injEq, Value.slice.injEq, and_true, true_and] at hq
                      omega
                    have hs1 : ∀ W, (Instr.slice 84 (.slice (some ⟨bb, ob, none⟩) body.length cb) (some (.int .i64 ((d : Int) + 1))) none none).run Try.prog W = .ok (Go.sliced (some ⟨bb, ob, none⟩) (d + 1) body.length cb 2) W := fun W => by
                      have hsz : (sizeOf (Try.prog.elem 84)).run Try.prog W = .ok 2 W := by kernel_rfl
                      have := run_slice_l (P := Try.prog) W 84 (some ⟨bb, ob, none⟩) body.length cb (by kernel_rfl) .i64 (d + 1) (by omega) (by omega)
                      rw [hsz] at this
                      exact this
                    generalize Go.sliced (some ⟨bb, ob, none⟩) (d + 1) body.length cb 2 = V1 at hs1 HBEG
                    generalize Fc.beg E Xf (Wd.getD h 0) (body.drop (d + 1)) = bg at *
                    have HADD := Lib.hid fun W μ hs => fcAdd_any w0 W gW nW cW Wd y bg μ hy (by rw [HNW.out, HLB.out.1]) (HLB.out.2 y) hbg (hst := hs)
                    generalize decide (Wd.getD y 0 ||| bg ≠ Wd.getD y 0) = M1 at *
                    have HC1 := Lib.hid fun (W : World) (μ : List Asrt) (hs : St w0 W (Fc.aU (.slice (some ⟨gW, 0, none⟩) nW cW) Wd :: μ)) => (show W.cell? ⟨gW, h, none⟩ = some (.int .u64 ((Wd.getD h 0 : Nat) : Int)) from by
                      unfold Fc.aU at hs
                      exact (hs.cellOwn (f := Fc.uV) (fun _ => rfl) h hh 0).1)
                    generalize Wd.getD h 0 = bh at *
                    have HPN2 := Lib.hid hpn; have HLB2 := Lib.hid hlb; have HFB2 := Lib.hid hfb
                    have hst2 := (hst.alloc #[.int .i64 2, .int .i64 y] 96).get6
                    have HST := Lib.hid hst2
                    have hwr : IntKind.i64.wrap (↑d + 1) = ↑d + 1 := IntWalk.i64_in _ (by omega)
                    have hwr0 : (0 : Int) ≤ ↑d + 1 := by omega
                    have hwr1 : ((d : Int) + 1).toNat = d + 1 := by omega
                    have hwr2 : (d : Int) + 1 ≤ body.length := by omega
                    clear s1 s2 hst hst2 hfb hdr HFB hy hh hbg hpn hlb hencb hbc
                    cases M1
                    all_goals
                      go_wp2
                      have HSTD := Lib.hid (HST.out.drew.pick (ρ := Fc.aB (.slice (some ⟨gE, 0, none⟩) nE cE) E :: Fc.aU (.slice (some ⟨gF, 0, none⟩) nF cF) Xf :: Fc.aU (.slice (some ⟨gW, 0, none⟩) nW cW) Wd :: aCel wr.heap.size 96 #[.int .i64 2, .int .i64 y] :: aCel wp.heap.size 186 #[.int .i64 h, .slice (some ⟨bb, ob, none⟩) body.length cb] :: aCel (w.heap.size + 1) 88 #[.slice (some ⟨gE, 0, none⟩) nE cE, .slice (some ⟨gF, 0, none⟩) nF cF, .slice (some ⟨gW, 0, none⟩) nW cW, vR, .slice (some ⟨gM, 0, none⟩) nM cM] :: aCel w.heap.size 68 #[.int .i64 t, .int .i64 n, .slice (some ⟨bp, op, none⟩) l.length cp] :: Fc.aB (.slice (some ⟨gM, 0, none⟩) nM cM) M :: μ) [7, 5, 0, 1, 2, 3, 4, 6] 8 rfl rfl)
                      have r0 := HC1.out _ _ HST.out.drew
                      obtain ⟨y0, y1⟩ := HST.out.at2 1 rfl
                      obtain ⟨p0, p1⟩ := HST.out.at2 2 rfl
                      obtain ⟨x0, x1, x2, x3, x4⟩ := HST.out.at5 3 rfl
                      refine wp_region_held_drew (S := (fun w' => w'.cell? ⟨w.heap.size + 1, 0, none⟩ = some (.slice (some ⟨gE, 0, none⟩) nE cE) ∧ w'.cell? ⟨w.heap.size + 1, 1, none⟩ = some (.slice (some ⟨gF, 0, none⟩) nF cF) ∧ w'.cell? ⟨w.heap.size + 1, 2, none⟩ = some (.slice (some ⟨gW, 0, none⟩) nW cW) ∧ w'.cell? ⟨w.heap.size + 1, 3, none⟩ = some vR ∧ w'.cell? ⟨w.heap.size + 1, 4, none⟩ = some (.slice (some ⟨gM, 0, none⟩) nM cM) ∧ w'.cell? ⟨wp.heap.size, 0, none⟩ = some (.int .i64 h) ∧ w'.cell? ⟨wp.heap.size, 1, none⟩ = some (.slice (some ⟨bb, ob, none⟩) body.length cb) ∧ w'.cell? ⟨wr.heap.size, 1, none⟩ = some (.int .i64 y))) (by kernel_rfl) ?_ (fun hHeld => ?_)
                      · (try dsimp only); (first | exact ⟨x0, x1, x2, x3, x4, p0, p1, y1⟩ | go_keep)
                      refine wpAnyH_take (i := 0) (v := ?_) rfl (by kernel_rfl) (by kernel_rfl) (by kernel_rfl) (fun _ _ _ h => h) (Or.inl ⟨by rfl, ?_⟩) (by assumption) ?_
                      rotate_left; focus (intro w hSw; (try dsimp only at hSw); go_simp; try (with_reducible rfl); done)
                      try simp only [List.getElem_toArray, List.getElem_cons_zero, List.getElem_cons_succ, Act.put, List.setIfInBounds_toArray, List.set_cons_zero, List.set_cons_succ]
                      refine wpAnyH_take (i := 1) (v := ?_) rfl (by kernel_rfl) (by kernel_rfl) (by kernel_rfl) (fun _ _ _ h => h) (Or.inl ⟨by rfl, ?_⟩) (by assumption) ?_
                      rotate_left; focus (intro w hSw; (try dsimp only at hSw); go_simp; try (with_reducible rfl); done)
                      try simp only [List.getElem_toArray, List.getElem_cons_zero, List.getElem_cons_succ, Act.put, List.setIfInBounds_toArray, List.set_cons_zero, List.set_cons_succ]
                      refine wpAnyH_take (i := 2) (v := ?_) rfl (by kernel_rfl) (by kernel_rfl) (by kernel_rfl) (fun _ _ _ h => h) (Or.inl ⟨by rfl, ?_⟩) (by assumption) ?_
                      rotate_left; focus (intro w hSw; (try dsimp only at hSw); go_simp; try (with_reducible rfl); done)
                      try simp only [List.getElem_toArray, List.getElem_cons_zero, List.getElem_cons_succ, Act.put, List.setIfInBounds_toArray, List.set_cons_zero, List.set_cons_succ]
                      refine wpAnyH_take (i := 3) (v := ?_) rfl (by kernel_rfl) (by kernel_rfl) (by kernel_rfl) (fun _ _ _ h => h) (Or.inl ⟨by rfl, ?_⟩) (by assumption) ?_
                      rotate_left; focus (intro w hSw; (try dsimp only at hSw); go_simp; try (with_reducible rfl); done)
                      try simp only [List.getElem_toArray, List.getElem_cons_zero, List.getElem_cons_succ, Act.put, List.setIfInBounds_toArray, List.set_cons_zero, List.set_cons_succ]
                      refine wpAnyH_take (i := 4) (v := ?_) rfl (by kernel_rfl) (by kernel_rfl) (by kernel_rfl) (fun _ _ _ h => h) (Or.inl ⟨by rfl, ?_⟩) (by assumption) ?_
                      rotate_left; focus (intro w hSw; (try dsimp only at hSw); go_simp; try (with_reducible rfl); done)
                      try simp only [List.getElem_toArray, List.getElem_cons_zero, List.getElem_cons_succ, Act.put, List.setIfInBounds_toArray, List.set_cons_zero, List.set_cons_succ]
                      refine wpAnyH_take (i := 5) (v := ?_) rfl (by kernel_rfl) (by kernel_rfl) (by kernel_rfl) (fun _ _ _ h => h) (Or.inl ⟨by rfl, ?_⟩) (by assumption) ?_
                      rotate_left; focus (intro w hSw; (try dsimp only at hSw); go_simp; try (with_reducible rfl); done)
                      try simp only [List.getElem_toArray, List.getElem_cons_zero, List.getElem_cons_succ, Act.put, List.setIfInBounds_toArray, List.set_cons_zero, List.set_cons_succ]
                      refine wpAnyH_take (i := 6) (v := ?_) rfl (by kernel_rfl) (by kernel_rfl) (by kernel_rfl) (fun _ _ _ h => h) (Or.inl ⟨by rfl, ?_⟩) (by assumption) ?_
                      rotate_left; focus (intro w hSw; (try dsimp only at hSw); go_simp; try (with_reducible rfl); done)
                      try simp only [List.getElem_toArray, List.getElem_cons_zero, List.getElem_cons_succ, Act.put, List.setIfInBounds_toArray, List.set_cons_zero, List.set_cons_succ]
                      refine wpAnyH_take (i := 7) (v := ?_) rfl (by kernel_rfl) (by kernel_rfl) (by kernel_rfl) (fun _ _ _ h => h) (Or.inl ⟨by rfl, ?_⟩) (by assumption) ?_
                      rotate_left; focus (intro w hSw; (try dsimp only at hSw); go_simp; try (with_reducible rfl); done)
                      try simp only [List.getElem_toArray, List.getElem_cons_zero, List.getElem_cons_succ, Act.put, List.setIfInBounds_toArray, List.set_cons_zero, List.set_cons_succ]
                      refine wpAnyH_take (i := 8) (v := ?_) rfl (by kernel_rfl) (by kernel_rfl) (by kernel_rfl) (fun _ _ _ h => h) (Or.inl ⟨by rfl, ?_⟩) (by assumption) ?_
                      rotate_left; focus (intro w hSw; (try dsimp only at hSw); go_simp; try (with_reducible rfl); done)
                      try simp only [List.getElem_toArray, List.getElem_cons_zero, List.getElem_cons_succ, Act.put, List.setIfInBounds_toArray, List.set_cons_zero, List.set_cons_succ]
                      refine wpAnyH_take (i := 9) (v := ?_) rfl (by kernel_rfl) (by kernel_rfl) (by kernel_rfl) (fun _ _ _ h => h) (Or.inl ⟨by rfl, ?_⟩) (by assumption) ?_
                      rotate_left; focus (intro w hSw; (try dsimp only at hSw); go_simp; try (with_reducible rfl); done)
                      try simp only [List.getElem_toArray, List.getElem_cons_zero, List.getElem_cons_succ, Act.put, List.setIfInBounds_toArray, List.set_cons_zero, List.set_cons_succ]
                      refine wpAnyH_take (i := 10) (v := ?_) rfl (by kernel_rfl) (by kernel_rfl) (by kernel_rfl) (fun _ _ _ h => h) (Or.inl ⟨by rfl, ?_⟩) (by assumption) ?_
                      rotate_left; focus (intro w hSw; (try dsimp only at hSw); go_simp; try (with_reducible rfl); done)
                      try simp only [List.getElem_toArray, List.getElem_cons_zero, List.getElem_cons_succ, Act.put, List.setIfInBounds_toArray, List.set_cons_zero, List.set_cons_succ]
                      refine wpAnyH_take (i := 11) (v := ?_) rfl (by kernel_rfl) (by kernel_rfl) (by kernel_rfl) (fun _ _ _ h => h) (Or.inl ⟨by rfl, ?_⟩) (by assumption) ?_
                      rotate_left; focus (intro w hSw; (try dsimp only at hSw); go_simp; try (with_reducible rfl); done)
                      try simp only [List.getElem_toArray, List.getElem_cons_zero, List.getElem_cons_succ, Act.put, List.setIfInBounds_toArray, List.set_cons_zero, List.set_cons_succ]
                      refine wpAnyH_take (i := 12) (v := ?_) rfl (by kernel_rfl) (by kernel_rfl) (by kernel_rfl) (fun _ _ _ h => h) (Or.inl ⟨by rfl, ?_⟩) (by assumption) ?_
                      rotate_left; focus (intro w hSw; (try dsimp only at hSw); go_simp; try (with_reducible rfl); done)
                      try simp only [List.getElem_toArray, List.getElem_cons_zero, List.getElem_cons_succ, Act.put, List.setIfInBounds_toArray, List.set_cons_zero, List.set_cons_succ]
                      refine wpAnyH_take (i := 13) (v := ?_) rfl (by kernel_rfl) (by kernel_rfl) (by kernel_rfl) (fun _ _ _ h => h) (Or.inl ⟨by rfl, ?_⟩) (by assumption) ?_
                      rotate_left; focus (intro w hSw; (try dsimp only at hSw); go_simp; try (with_reducible rfl); done)
                      try simp only [List.getElem_toArray, List.getElem_cons_zero, List.getElem_cons_succ, Act.put, List.setIfInBounds_toArray, List.set_cons_zero, List.set_cons_succ]
                      refine wpAnyH_take (i := 14) (v := ?_) rfl (by kernel_rfl) (by kernel_rfl) (by kernel_rfl) (fun _ _ _ h => h) (Or.inl ⟨by rfl, ?_⟩) (by assumption) ?_
                      rotate_left; focus (intro w hSw; (try dsimp only at hSw); go_simp; try (with_reducible rfl); done)
                      try simp only [List.getElem_toArray, List.getElem_cons_zero, List.getElem_cons_succ, Act.put, List.setIfInBounds_toArray, List.set_cons_zero, List.set_cons_succ]
                      refine wpAnyH_ready (rs := [15]) (by kernel_rfl) (by simp) ?_
                      refine AllReadyH.cons rfl (fun K hK => ?_) AllReadyH.nil
                      go_simp
                      refine hK.out _ _ ?_ (fun hHeld => ?_)
                      · (try dsimp only); (first | exact ⟨x0, x1, x2, x3, x4, p0, p1, y1⟩ | go_keep)
                      clear hK K
                      try simp only [List.getElem_toArray, List.getElem_cons_zero, List.getElem_cons_succ, Act.put, List.setIfInBounds_toArray, List.set_cons_zero, List.set_cons_succ]
                      refine wpAnyH_ready (rs := [16]) (by kernel_rfl) (by simp) ?_
                      refine AllReadyH.cons rfl (fun K hK => ?_) AllReadyH.nil
                      go_simp
                      (first | (go_at_call 106; refine (HBEG.out _ _ HSTD.out).mono ?_; rintro e w8 ⟨rfl, hst8⟩; have HSTD := Lib.hid hst8.get3; obtain ⟨x0, x1, x2, x3, x4⟩ := hst8.at5 5 rfl; obtain ⟨p0, p1⟩ := hst8.at2 4 rfl; obtain ⟨y0, y1⟩ := hst8.at2 3 rfl; clear hst8) | (go_at_call 149; refine (HADD.out _ _ HSTD.out).mono ?_; rintro e w9 ⟨rfl, hst9⟩; have HSTD := Lib.hid hst9; obtain ⟨x0, x1, x2, x3, x4⟩ := hst9.at5 5 rfl; obtain ⟨p0, p1⟩ := hst9.at2 4 rfl; obtain ⟨y0, y1⟩ := hst9.at2 3 rfl; clear hst9))
                      refine hK.out _ _ ?_ (fun hHeld => ?_)
                      · (try dsimp only); (first | exact ⟨x0, x1, x2, x3, x4, p0, p1, y1⟩ | go_keep)
                      clear hK K
                      try simp only [List.getElem_toArray, List.getElem_cons_zero, List.getElem_cons_succ, Act.put, List.setIfInBounds_toArray, List.set_cons_zero, List.set_cons_succ]
                      refine wpAnyH_ready (rs := [17]) (by kernel_rfl) (by simp) ?_
                      refine AllReadyH.cons rfl (fun K hK => ?_) AllReadyH.nil
                      go_simp
                      (first | (go_at_call 106; refine (HBEG.out _ _ HSTD.out).mono ?_; rintro e w8 ⟨rfl, hst8⟩; have HSTD := Lib.hid hst8.get3; obtain ⟨x0, x1, x2, x3, x4⟩ := hst8.at5 5 rfl; obtain ⟨p0, p1⟩ := hst8.at2 4 rfl; obtain ⟨y0, y1⟩ := hst8.at2 3 rfl; clear hst8) | (go_at_call 149; refine (HADD.out _ _ HSTD.out).mono ?_; rintro e w9 ⟨rfl, hst9⟩; have HSTD := Lib.hid hst9; obtain ⟨x0, x1, x2, x3, x4⟩ := hst9.at5 5 rfl; obtain ⟨p0, p1⟩ := hst9.at2 4 rfl; obtain ⟨y0, y1⟩ := hst9.at2 3 rfl; clear hst9))
                      refine hK.out _ _ ?_ (fun hHeld => ?_)
                      · (try dsimp only); (first | exact ⟨x0, x1, x2, x3, x4, p0, p1, y1⟩ | go_keep)
                      clear hK K
                      try simp only [List.getElem_toArray, List.getElem_cons_zero, List.getElem_cons_succ, Act.put, List.setIfInBounds_toArray, List.set_cons_zero, List.set_cons_succ]
                      refine wpAnyH_take (i := 18) (v := ?_) rfl (by kernel_rfl) (by kernel_rfl) (by kernel_rfl) (fun _ _ _ h => h) (Or.inl ⟨by rfl, ?_⟩) (by assumption) ?_
                      rotate_left; focus (intro w hSw; (try dsimp only at hSw); go_simp; try (with_reducible rfl); done)
                      try simp only [List.getElem_toArray, List.getElem_cons_zero, List.getElem_cons_succ, Act.put, List.setIfInBounds_toArray, List.set_cons_zero, List.set_cons_succ]
                      first | (refine wpAnyH_take (i := 19) (v := undef) rfl (by kernel_rfl) (by kernel_rfl) (by kernel_rfl) (fun _ _ _ h => h) (Or.inr ⟨by rfl, rfl⟩) (by assumption) ?_) | (refine wpAnyH_take (i := 19) (v := ?_) rfl (by kernel_rfl) (by kernel_rfl) (by kernel_rfl) (fun _ _ _ h => h) (Or.inl ⟨by rfl, ?_⟩) (by assumption) ?_; rotate_left; focus (intro w hSw; (try dsimp only at hSw); go_simp; try (with_reducible rfl); done))
                      try simp only [List.getElem_toArray, List.getElem_cons_zero, List.getElem_cons_succ, Act.put, List.setIfInBounds_toArray, List.set_cons_zero, List.set_cons_succ]
                      refine wpAnyH_take (i := 20) (v := ?_) rfl (by kernel_rfl) (by kernel_rfl) (by kernel_rfl) (fun _ _ _ h => h) (Or.inl ⟨by rfl, ?_⟩) (by assumption) ?_
                      rotate_left; focus (intro w hSw; (try dsimp only at hSw); go_simp; try (with_reducible rfl); done)
                      try simp only [List.getElem_toArray, List.getElem_cons_zero, List.getElem_cons_succ, Act.put, List.setIfInBounds_toArray, List.set_cons_zero, List.set_cons_succ]
                      refine wpAnyH_take (i := 21) (v := ?_) rfl (by kernel_rfl) (by kernel_rfl) (by kernel_rfl) (fun _ _ _ h => h) (Or.inl ⟨by rfl, ?_⟩) (by assumption) ?_
                      rotate_left; focus (intro w hSw; (try dsimp only at hSw); go_simp; try (with_reducible rfl); done)
                      try simp only [List.getElem_toArray, List.getElem_cons_zero, List.getElem_cons_succ, Act.put, List.setIfInBounds_toArray, List.set_cons_zero, List.set_cons_succ]
                      refine wpAnyH_done (by kernel_rfl) ?_ _
                      clear x0 x1 x2 x3 x4 p0 p1 y0 y1 HBEG HADD HST r0 hwr hwr1 hs1
                      go_wp2
                      go_roundg (body.length - (d + 1))
                      case measure => have := HGK3.out; omega
                      case rel => exact ⟨d + 1, _, _, by omega, rfl, by go_num, rfl, HLB2, HFB2, HPN2, HSTD.out.pick [4, 5, 6, 2, 0, 7, 1] 8 rfl rfl⟩
                · obtain rfl : d = body.length := by omega
                  have hfb := HFB.out
                  rw [List.drop_length] at hfb
                  replace hfb : Wd = Fc.folB E Xf h body Yk := hfb
                  rw [← HSF.out] at hfb
                  have HW := Lib.hid hfb
                  have HST := Lib.hid hst
                  clear hst hfb
                  go_wp2
                  go_roundg (l.length - (k + 1))
                  case measure => have := HGK2.out; omega
                  case rel => exact ⟨k + 1, m2, by omega, rfl, by go_num, rfl, by rw [← HW.out]; exact HLB, by rw [← HW.out]; exact HPN, by rw [← HW.out]; exact HST.out.drop⟩
            · obtain rfl : k = l.length := by omega
              rw [List.take_length] at hst HPN
              have HST := Lib.hid hst
              clear hst
              go_wp2
              go_roundg (Fc.room (2 ^ 64) (Fc.fol E Xf l Yq) + (if m = true then 1 else 0))
              case measure =>
                have h1 := HGK.out
                cases m
                · have := HPN.out.1 rfl; rw [this, h1]; simp
                · have h2 := HPN.out.2 rfl; rw [h1]; simp only [if_true]; exact Nat.add_lt_add_right h2 1
              case rel => exact ⟨q + 1, m, rfl, by rw [HIT.out], Lib.hid (fun hm => by rw [HIT.out]; have := HPN.out.1 hm; rw [this, this]), by rw [HIT.out]; exact HST.out⟩
    · clear HFX
      have hlX : (Fc.iter (Fc.rdF E M l) j X).length = N := by rw [Fc.iter_len (fun W => Fc.rdF_len)]; exact HX.out
      have hXlt : ∀ i, (Fc.iter (Fc.rdF E M l) j X).getD i 0 < 2 ^ 64 := Fc.iter_lt (fun W => ∀ i, W.getD i 0 < 2 ^ 64) (fun W hW => Fc.rdF_lt (fun p hp => Fc.okP_lt (HOK.out p hp)) hW) HXB.out
      have hit : Fc.iter (Fc.rdF E M l) (j + 1) X = Fc.rdF E M l (Fc.iter (Fc.rdF E M l) j X) := by rw [Fc.iter_add]; rfl
      have HLX := Lib.hid hlX; have HXLT := Lib.hid hXlt; have HIT := Lib.hid hit
      generalize Fc.iter (Fc.rdF E M l) j X = Xj at *
      obtain ⟨g0, g1, g2⟩ := HST.out.at3 1 rfl
      clear hlX hXlt hit
      go_wp2
      clear g0 g1 g2
      go_loopg [4, 16] l.length (fun gk2 mv i wr2 => ∃ (k : Nat) (m : Bool), k ≤ l.length ∧ gk2 = l.length - k ∧ i = .int .i64 k ∧ mv = .bool m ∧ Hid ((Fc.rdF E M (l.take k) Xj).length = N ∧ (∀ i, (Fc.rdF E M (l.take k) Xj).getD i 0 < 2 ^ 64)) ∧ Hid (Fc.ProgN (2 ^ 64) Xj (Fc.rdF E M (l.take k) Xj) m) ∧ St w0 wr2 (aCel (w.heap.size + 1) 88 #[.slice (some ⟨gE, 0, none⟩) nE cE, .slice (some ⟨gF, 0, none⟩) nF cF, .slice (some ⟨gW, 0, none⟩) nW cW, vR, .slice (some ⟨gM, 0, none⟩) nM cM] :: aCel w.heap.size 68 #[.int .i64 t, .int .i64 n, .slice ap l.length cp] :: Fc.aU (.slice (some ⟨gF, 0, none⟩) nF cF) (Fc.rdF E M (l.take k) Xj) :: Fc.aU (.slice (some ⟨gW, 0, none⟩) nW cW) Y :: Fc.aB (.slice (some ⟨gM, 0, none⟩) nM cM) M :: Fc.aB (.slice (some ⟨gE, 0, none⟩) nE cE) E :: μ))
      case atStart => exact ⟨0, false, by omega, by omega, rfl, rfl, Lib.hid ⟨HLX.out, HXLT.out⟩, Lib.hid (Fc.ProgN.refl _ _), HST.out⟩
      case round =>
        clear HST
        obtain ⟨k, m, hk, hgk2, rfl, rfl, HLB, HPN, hst⟩ := hrel
        have HGK2 := Lib.hid hgk2
        clear hgk2
        by_cases hlt : k < l.length
        · obtain ⟨rfl, _, _⟩ := P3.out (by omega)
          obtain ⟨vb, s1, s2, hbody, -⟩ := P4.out k hlt
          have hokp := HOK.out (l.getD k (0, [])) (by rw [show l.getD k (0, []) = l[k] by simp [List.getD, List.getElem?_eq_getElem hlt]]; exact List.getElem_mem hlt)
          have hsF := Fc.rdF_step (E := E) (M := M) (X := Xj) hlt
          generalize l.getD k (0, []) = p at *
          obtain ⟨h0, body⟩ := p
          simp only at s1 s2 hbody hsF
          have hpb := hokp.2.2
          obtain ⟨hp0, hp1, -⟩ := hokp
          simp only at hp0 hp1 hpb
          obtain ⟨h, rfl⟩ := Int.eq_ofNat_of_zero_le hp0
          rw [Int.toNat_natCast] at hsF
          have HSF := Lib.hid hsF; have HBODY := Lib.hid hbody; have HPB := Lib.hid hpb
          generalize Fc.rdF E M (l.take k) Xj = Xk at *
          have hlt2 : (k : Int) < l.length := by omega
          have s1 := bkeep hst.bel s1
          have s2 := bkeep hst.bel s2
          obtain ⟨ab, bb, ob, cb, rfl, hbl, b3, b4⟩ := slTwo hbody
          have HST := Lib.hid (hst.alloc #[.int .i64 h, .slice ab body.length cb] 186)
          obtain ⟨B, hB⟩ : ∃ B, Fc.all M true body = B := ⟨_, rfl⟩
          have HB := Lib.hid hB
          have HALL := Lib.hid fun W μ hs => fcAll_any w0 W gM nM cM M true (.slice ab body.length cb) body μ F (by rw [HNM.out, HM.out]) hbody (fun x hx => by rw [HM.out]; rcases hpb x hx with ⟨a, b, c⟩ | ⟨a, b, c⟩; exact .inl ⟨a, b⟩; exact .inr ⟨a, b, c⟩) (hst := hs)
          rw [hB] at HALL
          clear hst hsF hbody hpb hp0 hbl b3 b4 hB
          obtain ⟨x0, x1, x2, x3, x4⟩ := HST.out.at5 1 rfl
          obtain ⟨p0, p1⟩ := HST.out.at2 0 rfl
          cases B
          all_goals
            go_wp2_with (go_at_call 148; refine (HALL.out _ _ HST.out.get6).mono ?_; rintro e w8 ⟨rfl, hst8⟩; have HST := Lib.hid hst8; clear hst8)
          · have hs := HSF.out
            rw [HB.out, if_neg (by decide)] at hs
            go_roundg (l.length - (k + 1))
            case measure => have := HGK2.out; omega
            case rel => exact ⟨k + 1, m, by omega, rfl, by go_num, rfl, by rw [hs]; exact HLB, by rw [hs]; exact HPN, by rw [hs]; exact HST.out.get2.drop.get5.get5.get5.get5⟩
          · have hs := HSF.out
            rw [HB.out, if_pos rfl] at hs
            have HS := Lib.hid hs
            have hbl := Fc.beg_lt (E := E) (b := 0) HLB.out.2 (by decide) (fun x hx h1 => by rcases HPB.out x hx with ⟨-, a, b⟩ | ⟨a, -⟩ <;> omega)
            have hpn := HPN.out.up (i := h) (b := Fc.beg E Xk 0 body) (by rw [HLB.out.1]; omega) (Nat.or_lt_two_pow (HLB.out.2 h) hbl)
            have hlb : (Fc.up Xk h (Fc.beg E Xk 0 body)).length = N ∧ (∀ i, (Fc.up Xk h (Fc.beg E Xk 0 body)).getD i 0 < 2 ^ 64) := ⟨by rw [Fc.up_len]; exact HLB.out.1, Fc.up_lt HLB.out.2 hbl⟩
            have HBEG := Lib.hid fun W μ hs => fcBegin_any w0 W gE nE cE gF nF cF E Xk (.slice (some ⟨gW, 0, none⟩) nW cW) vR (.slice (some ⟨gM, 0, none⟩) nM cM) (.slice ab body.length cb) 0 body μ F (by rw [HNE.out, HE.out]) (by rw [HNF.out, HLB.out.1]) (by rw [HLB.out.1, HE.out]) (fun i => HLB.out.2 i) (by decide) HBODY.out (fun x hx => by rw [HE.out]; rcases HPB.out x hx with ⟨a, b, c⟩ | ⟨a, b, c⟩; exact .inl ⟨a, b, by omega⟩; exact .inr ⟨a, b, c⟩) (hst := hs)
            generalize Fc.beg E Xk 0 body = bg at *
            have HADD := Lib.hid fun W μ hs => fcAdd_any w0 W gF nF cF Xk h bg μ (by rw [HLB.out.1]; omega) (by rw [HNF.out, HLB.out.1]) (HLB.out.2 h) hbl (hst := hs)
            generalize decide (Xk.getD h 0 ||| bg ≠ Xk.getD h 0) = M1 at *
            have HPN2 := Lib.hid hpn; have HLB2 := Lib.hid hlb
            have HST := Lib.hid HST.out.get5.get7
            clear hs hbl hpn hlb x0 x1 x2 x3 x4 p0 p1
            cases M1
            all_goals
              have HSTD := Lib.hid HST.out.drew
              obtain ⟨x0, x1, x2, x3, x4⟩ := HST.out.at5 4 rfl
              obtain ⟨p0, p1⟩ := HST.out.at2 3 rfl
              refine wp_region_held_drew (S := (fun w' => w'.cell? ⟨w.heap.size + 1, 0, none⟩ = some (.slice (some ⟨gE, 0, none⟩) nE cE) ∧ w'.cell? ⟨w.heap.size + 1, 1, none⟩ = some (.slice (some ⟨gF, 0, none⟩) nF cF) ∧ w'.cell? ⟨w.heap.size + 1, 2, none⟩ = some (.slice (some ⟨gW, 0, none⟩) nW cW) ∧ w'.cell? ⟨w.heap.size + 1, 3, none⟩ = some vR ∧ w'.cell? ⟨w.heap.size + 1, 4, none⟩ = some (.slice (some ⟨gM, 0, none⟩) nM cM) ∧ w'.cell? ⟨wr.heap.size, 0, none⟩ = some (.int .i64 h) ∧ w'.cell? ⟨wr.heap.size, 1, none⟩ = some (.slice ab body.length cb))) (by kernel_rfl) ?_ (fun hHeld => ?_)
              · (try dsimp only); (first | exact ⟨x0, x1, x2, x3, x4, p0, p1⟩ | go_keep)
              refine wpAnyH_take (i := 0) (v := ?_) rfl (by kernel_rfl) (by kernel_rfl) (by kernel_rfl) (fun _ _ _ h => h) (Or.inl ⟨by rfl, ?_⟩) (by assumption) ?_
              rotate_left; focus (intro w hSw; (try dsimp only at hSw); go_simp; try (with_reducible rfl); done)
              try simp only [List.getElem_toArray, List.getElem_cons_zero, List.getElem_cons_succ, Act.put, List.setIfInBounds_toArray, List.set_cons_zero, List.set_cons_succ]
              refine wpAnyH_take (i := 1) (v := ?_) rfl (by kernel_rfl) (by kernel_rfl) (by kernel_rfl) (fun _ _ _ h => h) (Or.inl ⟨by rfl, ?_⟩) (by assumption) ?_
              rotate_left; focus (intro w hSw; (try dsimp only at hSw); go_simp; try (with_reducible rfl); done)
              try simp only [List.getElem_toArray, List.getElem_cons_zero, List.getElem_cons_succ, Act.put, List.setIfInBounds_toArray, List.set_cons_zero, List.set_cons_succ]
              refine wpAnyH_take (i := 2) (v := ?_) rfl (by kernel_rfl) (by kernel_rfl) (by kernel_rfl) (fun _ _ _ h => h) (Or.inl ⟨by rfl, ?_⟩) (by assumption) ?_
              rotate_left; focus (intro w hSw; (try dsimp only at hSw); go_simp; try (with_reducible rfl); done)
              try simp only [List.getElem_toArray, List.getElem_cons_zero, List.getElem_cons_succ, Act.put, List.setIfInBounds_toArray, List.set_cons_zero, List.set_cons_succ]
              refine wpAnyH_take (i := 3) (v := ?_) rfl (by kernel_rfl) (by kernel_rfl) (by kernel_rfl) (fun _ _ _ h => h) (Or.inl ⟨by rfl, ?_⟩) (by assumption) ?_
              rotate_left; focus (intro w hSw; (try dsimp only at hSw); go_simp; try (with_reducible rfl); done)
              try simp only [List.getElem_toArray, List.getElem_cons_zero, List.getElem_cons_succ, Act.put, List.setIfInBounds_toArray, List.set_cons_zero, List.set_cons_succ]
              refine wpAnyH_take (i := 4) (v := ?_) rfl (by kernel_rfl) (by kernel_rfl) (by kernel_rfl) (fun _ _ _ h => h) (Or.inl ⟨by rfl, ?_⟩) (by assumption) ?_
              rotate_left; focus (intro w hSw; (try dsimp only at hSw); go_simp; try (with_reducible rfl); done)
              try simp only [List.getElem_toArray, List.getElem_cons_zero, List.getElem_cons_succ, Act.put, List.setIfInBounds_toArray, List.set_cons_zero, List.set_cons_succ]
              refine wpAnyH_take (i := 5) (v := ?_) rfl (by kernel_rfl) (by kernel_rfl) (by kernel_rfl) (fun _ _ _ h => h) (Or.inl ⟨by rfl, ?_⟩) (by assumption) ?_
              rotate_left; focus (intro w hSw; (try dsimp only at hSw); go_simp; try (with_reducible rfl); done)
              try simp only [List.getElem_toArray, List.getElem_cons_zero, List.getElem_cons_succ, Act.put, List.setIfInBounds_toArray, List.set_cons_zero, List.set_cons_succ]
              refine wpAnyH_take (i := 6) (v := ?_) rfl (by kernel_rfl) (by kernel_rfl) (by kernel_rfl) (fun _ _ _ h => h) (Or.inl ⟨by rfl, ?_⟩) (by assumption) ?_
              rotate_left; focus (intro w hSw; (try dsimp only at hSw); go_simp; try (with_reducible rfl); done)
              try simp only [List.getElem_toArray, List.getElem_cons_zero, List.getElem_cons_succ, Act.put, List.setIfInBounds_toArray, List.set_cons_zero, List.set_cons_succ]
              refine wpAnyH_ready (rs := [7]) (by kernel_rfl) (by simp) ?_
              refine AllReadyH.cons rfl (fun K hK => ?_) AllReadyH.nil
              go_simp
              (first | (go_at_call 106; refine (HBEG.out _ _ HSTD.out).mono ?_; rintro e w8 ⟨rfl, hst8⟩; have HSTD := Lib.hid hst8.get2; obtain ⟨x0, x1, x2, x3, x4⟩ := hst8.at5 4 rfl; obtain ⟨p0, p1⟩ := hst8.at2 3 rfl; clear hst8) | (go_at_call 149; refine (HADD.out _ _ HSTD.out).mono ?_; rintro e w9 ⟨rfl, hst9⟩; have HSTD := Lib.hid hst9; obtain ⟨x0, x1, x2, x3, x4⟩ := hst9.at5 4 rfl; obtain ⟨p0, p1⟩ := hst9.at2 3 rfl; clear hst9))
              refine hK.out _ _ ?_ (fun hHeld => ?_)
              · (try dsimp only); (first | exact ⟨x0, x1, x2, x3, x4, p0, p1⟩ | go_keep)
              clear hK K
              try simp only [List.getElem_toArray, List.getElem_cons_zero, List.getElem_cons_succ, Act.put, List.setIfInBounds_toArray, List.set_cons_zero, List.set_cons_succ]
              refine wpAnyH_ready (rs := [8]) (by kernel_rfl) (by simp) ?_
              refine AllReadyH.cons rfl (fun K hK => ?_) AllReadyH.nil
              go_simp
              (first | (go_at_call 106; refine (HBEG.out _ _ HSTD.out).mono ?_; rintro e w8 ⟨rfl, hst8⟩; have HSTD := Lib.hid hst8.get2; obtain ⟨x0, x1, x2, x3, x4⟩ := hst8.at5 4 rfl; obtain ⟨p0, p1⟩ := hst8.at2 3 rfl; clear hst8) | (go_at_call 149; refine (HADD.out _ _ HSTD.out).mono ?_; rintro e w9 ⟨rfl, hst9⟩; have HSTD := Lib.hid hst9; obtain ⟨x0, x1, x2, x3, x4⟩ := hst9.at5 4 rfl; obtain ⟨p0, p1⟩ := hst9.at2 3 rfl; clear hst9))
              refine hK.out _ _ ?_ (fun hHeld => ?_)
              · (try dsimp only); (first | exact ⟨x0, x1, x2, x3, x4, p0, p1⟩ | go_keep)
              clear hK K
              try simp only [List.getElem_toArray, List.getElem_cons_zero, List.getElem_cons_succ, Act.put, List.setIfInBounds_toArray, List.set_cons_zero, List.set_cons_succ]
              refine wpAnyH_take (i := 9) (v := ?_) rfl (by kernel_rfl) (by kernel_rfl) (by kernel_rfl) (fun _ _ _ h => h) (Or.inl ⟨by rfl, ?_⟩) (by assumption) ?_
              rotate_left; focus (intro w hSw; (try dsimp only at hSw); go_simp; try (with_reducible rfl); done)
              try simp only [List.getElem_toArray, List.getElem_cons_zero, List.getElem_cons_succ, Act.put, List.setIfInBounds_toArray, List.set_cons_zero, List.set_cons_succ]
              first | (refine wpAnyH_take (i := 10) (v := undef) rfl (by kernel_rfl) (by kernel_rfl) (by kernel_rfl) (fun _ _ _ h => h) (Or.inr ⟨by rfl, rfl⟩) (by assumption) ?_) | (refine wpAnyH_take (i := 10) (v := ?_) rfl (by kernel_rfl) (by kernel_rfl) (by kernel_rfl) (fun _ _ _ h => h) (Or.inl ⟨by rfl, ?_⟩) (by assumption) ?_; rotate_left; focus (intro w hSw; (try dsimp only at hSw); go_simp; try (with_reducible rfl); done))
              try simp only [List.getElem_toArray, List.getElem_cons_zero, List.getElem_cons_succ, Act.put, List.setIfInBounds_toArray, List.set_cons_zero, List.set_cons_succ]
              refine wpAnyH_take (i := 11) (v := ?_) rfl (by kernel_rfl) (by kernel_rfl) (by kernel_rfl) (fun _ _ _ h => h) (Or.inl ⟨by rfl, ?_⟩) (by assumption) ?_
              rotate_left; focus (intro w hSw; (try dsimp only at hSw); go_simp; try (with_reducible rfl); done)
              try simp only [List.getElem_toArray, List.getElem_cons_zero, List.getElem_cons_succ, Act.put, List.setIfInBounds_toArray, List.set_cons_zero, List.set_cons_succ]
              refine wpAnyH_take (i := 12) (v := ?_) rfl (by kernel_rfl) (by kernel_rfl) (by kernel_rfl) (fun _ _ _ h => h) (Or.inl ⟨by rfl, ?_⟩) (by assumption) ?_
              rotate_left; focus (intro w hSw; (try dsimp only at hSw); go_simp; try (with_reducible rfl); done)
              try simp only [List.getElem_toArray, List.getElem_cons_zero, List.getElem_cons_succ, Act.put, List.setIfInBounds_toArray, List.set_cons_zero, List.set_cons_succ]
              refine wpAnyH_done (by kernel_rfl) ?_ _
              clear x0 x1 x2 x3 x4 p0 p1 HBEG HADD HST
              go_wp2
              go_roundg (l.length - (k + 1))
              case measure => have := HGK2.out; omega
              case rel => exact ⟨k + 1, _, by omega, rfl, by go_num, rfl, by rw [HS.out]; exact HLB2, by rw [HS.out]; exact HPN2, by rw [HS.out]; exact HSTD.out.get4.drop.get3.get6.get3.get6.get6⟩
        · obtain rfl : k = l.length := by omega
          rw [List.take_length] at hst HPN
          have HST := Lib.hid hst
          clear hst
          go_wp2
          go_roundg (Fc.room (2 ^ 64) (Fc.rdF E M l Xj) + (if m = true then 1 else 0))
          case measure =>
            have h1 := HGK.out
            cases m
            · have := HPN.out.1 rfl; rw [this, h1]; simp
            · have h2 := HPN.out.2 rfl; rw [h1]; simp only [if_true]; exact Nat.add_lt_add_right h2 1
          case rel => exact ⟨j + 1, m, rfl, by rw [HIT.out], Lib.hid (fun hm => by rw [HIT.out]; have := HPN.out.1 hm; rw [this, this]), by rw [HIT.out]; exact HST.out⟩
end Go.Proofs.Ytldapomcjfkeeaa
