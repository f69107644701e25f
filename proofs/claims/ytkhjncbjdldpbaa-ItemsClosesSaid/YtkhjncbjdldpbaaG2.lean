/-
  Parts of the proof of ItemsCloses, put together: FcRound FcProgN FcSets GramChk FcPlain It ItN CelOwn ItBody2 ItCubeOf Makes SepRow SepMap MapKey MapView. (Helper texts.)
-/
import Derived.Test.YtkhjncbjdldpbaaG1
import Derived.Deep.RegionHeld3
import Derived.Deep.LoopGhost
import Derived.Deep.RegionLaw
import Derived.Laws.ResultCell
import Derived.Laws.Tables
import Derived.Maps.OwnSet
import Derived.WideKeyArr

/-
  round of package facts.
-/
namespace Go.Proofs.Ytkhjncbjdldpbaa
set_option linter.unusedVariables false
set_option linter.unusedSimpArgs false
open Go.ChangeShapes Go.WideShapes Go.ChangeAt Go.RowKit

theorem St.get6 {w0 w : World} {μ : List Asrt} {A B C D E F : Asrt} (h : St w0 w (A :: B :: C :: D :: E :: F :: μ)) : St w0 w (F :: A :: B :: C :: D :: E :: μ) :=
  h.perm (by
    have := (List.perm_middle (l₁ := [A, B, C, D, E]) (l₂ := μ) (a := F))
    simpa using this)
theorem St.at5 {w0 w : World} {μ : List Asrt} {g : Nat} {T : TypeId} {v0 v1 v2 v3 v4 : Value} (h : St w0 w μ) (i : Nat) (hA : μ[i]? = some (aCel g T #[v0, v1, v2, v3, v4])) :
    w.cell? ⟨g, 0, none⟩ = some v0 ∧ w.cell? ⟨g, 1, none⟩ = some v1 ∧ w.cell? ⟨g, 2, none⟩ = some v2 ∧ w.cell? ⟨g, 3, none⟩ = some v3 ∧ w.cell? ⟨g, 4, none⟩ = some v4 :=
  ⟨(h.nth i hA).celAt rfl, (h.nth i hA).celAt rfl, (h.nth i hA).celAt rfl, (h.nth i hA).celAt rfl, (h.nth i hA).celAt rfl⟩
namespace Fc
theorem set1_self {X : List Bool} {h q : Nat} {b : Bool} (hb : X.getD h false = b) (hq : q < X.length) : (set1 X q b).getD h false = b := by
  rw [set1_get _ hq, hb]; cases b <;> simp
/-- A production within n nonterminals. -/
def okP (n : Nat) (p : Pr) : Prop := 0 ≤ p.1 ∧ p.1 < n ∧ ∀ x ∈ p.2, (x.1 = 1 ∧ 0 ≤ x.2 ∧ x.2 < 63) ∨ (x.1 = 2 ∧ 0 ≤ x.2 ∧ x.2 < n)
end Fc

set_option maxRecDepth 100000 in
set_option maxHeartbeats 1600000 in
theorem fcRound_any (w0 w : World) (t n : Int) (vp vF vW : Value) (l : List Fc.Pr) (N gE nE cE gM nM cM gR nR cR : Nat) (E M R : List Bool) (μ : List Asrt) (F : Nat → Prop) (hp : Enc.prods.R F w0 [vp] l) (hl : l.length ≤ 40) (hok : ∀ p ∈ l, Fc.okP N p) (hE : E.length = N) (hM : M.length = N) (hR : R.length = N) (hnE : nE = N) (hnM : nM = N) (hnR : nR = N)
    (hst : St w0 w (Fc.aB (.slice (some ⟨gR, 0, none⟩) nR cR) R :: Fc.aB (.slice (some ⟨gM, 0, none⟩) nM cM) M :: Fc.aB (.slice (some ⟨gE, 0, none⟩) nE cE) E :: μ)) :
    Calls Try.prog 95 #[.agg #[.int .i64 t, .int .i64 n, vp], .agg #[.slice (some ⟨gE, 0, none⟩) nE cE, vF, vW, .slice (some ⟨gR, 0, none⟩) nR cR, .slice (some ⟨gM, 0, none⟩) nM cM]] w fun e w' => ∃ m, e = .returned (.bool m) ∧ Fc.Prog (E, M, R) (Fc.rdA false l E, Fc.rdA true l M, Fc.rdR l R) m ∧
      St w0 w' (Fc.aB (.slice (some ⟨gR, 0, none⟩) nR cR) (Fc.rdR l R) :: Fc.aB (.slice (some ⟨gM, 0, none⟩) nM cM) (Fc.rdA true l M) :: Fc.aB (.slice (some ⟨gE, 0, none⟩) nE cE) (Fc.rdA false l E) :: μ) := by
  obtain ⟨ap, bp, op, cp, rfl, -, p3, p4⟩ := slProds hp
  have P3 := Lib.hid p3; have P4 := Lib.hid p4; have HOK := Lib.hid hok; have HE := Lib.hid hE; have HM := Lib.hid hM; have HR := Lib.hid hR; have HNE := Lib.hid hnE; have HNM := Lib.hid hnM; have HNR := Lib.hid hnR
  have hst1 := ((hst.alloc #[.int .i64 t, .int .i64 n, .slice ap l.length cp] 24).alloc #[.slice (some ⟨gE, 0, none⟩) nE cE, vF, vW, .slice (some ⟨gR, 0, none⟩) nR cR, .slice (some ⟨gM, 0, none⟩) nM cM] 68).get5.get5.get5
  simp only [World.size_alloc] at hst1
  have HST := Lib.hid hst1
  clear hst hst1 hp p3 p4 hok hE hM hR hnE hnM hnR
  go_enter Try.func95, Try.ntmps95
  go_wp2
  go_loopg [5, 13] l.length (fun gk mv i wr => ∃ (k : Nat) (m : Bool), k ≤ l.length ∧ gk = l.length - k ∧ i = .int .i64 k ∧ mv = .bool m ∧ St w0 wr (Fc.aB (.slice (some ⟨gR, 0, none⟩) nR cR) (Fc.rdR (l.take k) R) :: Fc.aB (.slice (some ⟨gM, 0, none⟩) nM cM) (Fc.rdA true (l.take k) M) :: Fc.aB (.slice (some ⟨gE, 0, none⟩) nE cE) (Fc.rdA false (l.take k) E) :: aCel (w.heap.size + 1) 68 #[.slice (some ⟨gE, 0, none⟩) nE cE, vF, vW, .slice (some ⟨gR, 0, none⟩) nR cR, .slice (some ⟨gM, 0, none⟩) nM cM] :: aCel w.heap.size 24 #[.int .i64 t, .int .i64 n, .slice ap l.length cp] :: μ) ∧ Hid (Fc.Prog (E, M, R) (Fc.rdA false (l.take k) E, Fc.rdA true (l.take k) M, Fc.rdR (l.take k) R) m))
  case atStart => exact ⟨0, false, by omega, by omega, rfl, rfl, HST.out, Lib.hid (Fc.Prog.refl _)⟩
  case round =>
    rename World => wo
    clear HST
    obtain ⟨k, m, hk, hgk, rfl, rfl, hst, HPG⟩ := hrel
    have HGK := Lib.hid hgk
    clear hgk
    by_cases hlt : k < l.length
    · have hsE := Fc.rdA_step (terms := false) (X := E) hlt
      have hsM := Fc.rdA_step (terms := true) (X := M) hlt
      have hsR := Fc.rdR_step (X := R) hlt
      have hlE := Fc.rdA_len (terms := false) (l := l.take k) (X := E)
      have hlM := Fc.rdA_len (terms := true) (l := l.take k) (X := M)
      have hlR := Fc.rdR_len (l := l.take k) (X := R)
      rw [HE.out] at hlE
      rw [HM.out] at hlM
      rw [HR.out] at hlR
      obtain ⟨rfl, _, _⟩ := P3.out (by omega)
      obtain ⟨vb, s1, s2, hbody, -⟩ := P4.out k hlt
      have hokp := HOK.out (l.getD k (0, [])) (by rw [show l.getD k (0, []) = l[k] by simp [List.getD, List.getElem?_eq_getElem hlt]]; exact List.getElem_mem hlt)
      generalize l.getD k (0, []) = p at *
      obtain ⟨h0, body⟩ := p
      simp only at s1 s2 hbody hsE hsM hsR
      obtain ⟨hp0, hp1, hpb⟩ := hokp
      simp only at hp0 hp1 hpb
      obtain ⟨h, rfl⟩ := Int.eq_ofNat_of_zero_le hp0
      rw [Int.toNat_natCast] at hsE hsM hsR
      have HSE := Lib.hid hsE; have HSM := Lib.hid hsM; have HSR := Lib.hid hsR; have HBODY := Lib.hid hbody; have HPB := Lib.hid hpb
      generalize Fc.rdA false (l.take k) E = Ek at *
      generalize Fc.rdA true (l.take k) M = Mk at *
      generalize Fc.rdR (l.take k) R = Rk at *
      have HLE := Lib.hid hlE; have HLM := Lib.hid hlM; have HLR := Lib.hid hlR
      have hlt2 : (k : Int) < l.length := by omega
      have s1 := bkeep hst.bel s1
      have s2 := bkeep hst.bel s2
      obtain ⟨ab, bb, ob, cb, rfl, hbl, b3, b4⟩ := slTwo hbody
      have B3 := Lib.hid b3; have B4 := Lib.hid b4
      have hbl2 : (body.length : Int) ≤ 140737488355328 := by omega
      have HST := Lib.hid ((hst.alloc #[.int .i64 h, .slice ab body.length cb] 112).get4)
      obtain ⟨B1, hB1⟩ : ∃ B1, Fc.all Ek false body = B1 := ⟨_, rfl⟩
      obtain ⟨B2, hB2⟩ : ∃ B2, Fc.all Mk true body = B2 := ⟨_, rfl⟩
      obtain ⟨M1, hM1⟩ : ∃ M1, (B1 && !Ek.getD h false) = M1 := ⟨_, rfl⟩
      obtain ⟨M2, hM2⟩ : ∃ M2, (B2 && !Mk.getD h false) = M2 := ⟨_, rfl⟩
      have HALL1 := Lib.hid fun W μ hs => fcAll_any w0 W gE nE cE Ek false (.slice ab body.length cb) body μ F (by rw [HNE.out, hlE]) hbody (fun x hx => by rw [hlE]; rcases hpb x hx with ⟨a, b, c⟩ | ⟨a, b, c⟩; exact .inl ⟨a, b⟩; exact .inr ⟨a, b, c⟩) (hst := hs)
      have HALL2 := Lib.hid fun W μ hs => fcAll_any w0 W gM nM cM Mk true (.slice ab body.length cb) body μ F (by rw [HNM.out, hlM]) hbody (fun x hx => by rw [hlM]; rcases hpb x hx with ⟨a, b, c⟩ | ⟨a, b, c⟩; exact .inl ⟨a, b⟩; exact .inr ⟨a, b, c⟩) (hst := hs)
      have HMK1 := Lib.hid fun W μ hs => fcMark_any w0 W gE nE cE Ek h B1 μ (by rw [hlE]; omega) (by rw [HNE.out, hlE]) (hst := hs)
      have HMK2 := Lib.hid fun W μ hs => fcMark_any w0 W gM nM cM Mk h B2 μ (by rw [hlM]; omega) (by rw [HNM.out, hlM]) (hst := hs)
      rw [hB1] at HALL1
      rw [hB2] at HALL2
      rw [hM1] at HMK1
      rw [hM2] at HMK2
      have HPG2 := Lib.hid ((HPG.out.e (i := h) (b := B1) (by rw [hlE]; omega)).m (i := h) (b := B2) (by rw [hlM]; omega))
      rw [hM1, hM2] at HPG2
      have HB1 := Lib.hid hB1; have HB2 := Lib.hid hB2; have HM1 := Lib.hid hM1; have HM2 := Lib.hid hM2
      clear hst hsE hsM hsR hbody hpb hlE hlM hlR hp0 hB1 hB2 hM1 hM2 hbl b3 b4 HPG
      cases M1
      all_goals
        go_wp2
        have HSTD := Lib.hid HST.out.drew
        obtain ⟨x0, -, -, -, -⟩ := HST.out.at5 4 rfl
        obtain ⟨p0, p1⟩ := HST.out.at2 1 rfl
        refine wp_region_held_drew (S := (fun w' => w'.cell? ⟨w.heap.size + 1, 0, none⟩ = some (.slice (some ⟨gE, 0, none⟩) nE cE) ∧ w'.cell? ⟨wo.heap.size, 0, none⟩ = some (.int .i64 h) ∧ w'.cell? ⟨wo.heap.size, 1, none⟩ = some (.slice ab body.length cb))) (by kernel_rfl) ?_ (fun hHeld => ?_)
        · (try dsimp only); (first | exact ⟨x0, p0, p1⟩ | go_keep)
        refine wpAnyH_take (i := 0) (v := ?_) rfl (by kernel_rfl) (by kernel_rfl) (by kernel_rfl) (fun _ _ _ h => h) (Or.inl ⟨by rfl, ?_⟩) (by assumption) ?_
        rotate_left; focus (intro w hSw; (try dsimp only at hSw); go_simp; try (with_reducible rfl); done)
        try simp only [List.getElem_toArray, List.getElem_cons_zero, List.getElem_cons_succ, Act.put, List.setIfInBounds_toArray, List.set_cons_zero, List.set_cons_succ]
        refine wpAnyH_take (i := 1) (v := ?_) rfl (by kernel_rfl) (by kernel_rfl) (by kernel_rfl) (fun _ _ _ h => h) (Or.inl ⟨by rfl, ?_⟩) (by assumption) ?_
        rotate_left; focus (intro w hSw; (try dsimp only at hSw); go_simp; try (with_reducible rfl); done)
        try simp only [List.getElem_toArray, List.getElem_cons_zero, List.getElem_cons_succ, Act.put, List.setIfInBounds_toArray, List.set_cons_zero, List.set_cons_succ]
        refine wpAnyH_take (i := 2) (v := ?_) rfl (by kernel_rfl) (by kernel_rfl) (by kernel_rfl) (fun _ _ _ h => h) (Or.inl ⟨by rfl, ?_⟩) (by assumption) ?_
        rotate_left; focus (intro w hSw; (try dsimp only at hSw); go_simp; try (with_reducible rfl); done)
        try simp only [List.getElem_toArray, List.getElem_cons_zero, List.getElem_cons_succ, Act.put, List.setIfInBounds_toArray, List.set_cons_zero, List.set_cons_succ]
        refine wpAnyH_take (i := 3) (v := ?_) rfl (by kernel_rfl) (by kernel_rfl) (by kernel_rfl) (fun _ _ _ h => h) (Or.inl ⟨by rfl, ?_⟩) (by assumption) ?_
        rotate_left; focus (intro w hSw; (try dsimp only at hSw); go_simp; try (with_reducible rfl); done)
        try simp only [List.getElem_toArray, List.getElem_cons_zero, List.getElem_cons_succ, Act.put, List.setIfInBounds_toArray, List.set_cons_zero, List.set_cons_succ]
        refine wpAnyH_take (i := 4) (v := ?_) rfl (by kernel_rfl) (by kernel_rfl) (by kernel_rfl) (fun _ _ _ h => h) (Or.inl ⟨by rfl, ?_⟩) (by assumption) ?_
        rotate_left; focus (intro w hSw; (try dsimp only at hSw); go_simp; try (with_reducible rfl); done)
        try simp only [List.getElem_toArray, List.getElem_cons_zero, List.getElem_cons_succ, Act.put, List.setIfInBounds_toArray, List.set_cons_zero, List.set_cons_succ]
        refine wpAnyH_take (i := 5) (v := ?_) rfl (by kernel_rfl) (by kernel_rfl) (by kernel_rfl) (fun _ _ _ h => h) (Or.inl ⟨by rfl, ?_⟩) (by assumption) ?_
        rotate_left; focus (intro w hSw; (try dsimp only at hSw); go_simp; try (with_reducible rfl); done)
        try simp only [List.getElem_toArray, List.getElem_cons_zero, List.getElem_cons_succ, Act.put, List.setIfInBounds_toArray, List.set_cons_zero, List.set_cons_succ]
        refine wpAnyH_take (i := 6) (v := ?_) rfl (by kernel_rfl) (by kernel_rfl) (by kernel_rfl) (fun _ _ _ h => h) (Or.inl ⟨by rfl, ?_⟩) (by assumption) ?_
        rotate_left; focus (intro w hSw; (try dsimp only at hSw); go_simp; try (with_reducible rfl); done)
        try simp only [List.getElem_toArray, List.getElem_cons_zero, List.getElem_cons_succ, Act.put, List.setIfInBounds_toArray, List.set_cons_zero, List.set_cons_succ]
        refine wpAnyH_take (i := 7) (v := ?_) rfl (by kernel_rfl) (by kernel_rfl) (by kernel_rfl) (fun _ _ _ h => h) (Or.inl ⟨by rfl, ?_⟩) (by assumption) ?_
        rotate_left; focus (intro w hSw; (try dsimp only at hSw); go_simp; try (with_reducible rfl); done)
        try simp only [List.getElem_toArray, List.getElem_cons_zero, List.getElem_cons_succ, Act.put, List.setIfInBounds_toArray, List.set_cons_zero, List.set_cons_succ]
        refine wpAnyH_ready (rs := [8]) (by kernel_rfl) (by simp) ?_
        refine AllReadyH.cons rfl (fun K hK => ?_) AllReadyH.nil
        go_simp
        (first | (go_at_call 119; refine (HALL1.out _ _ HSTD.out).mono ?_; rintro e w8 ⟨rfl, hst8⟩; have HSTD := Lib.hid hst8; obtain ⟨x0, -, -, -, -⟩ := hst8.at5 4 rfl; obtain ⟨p0, p1⟩ := hst8.at2 1 rfl; clear hst8) | (go_at_call 118; refine (HMK1.out _ _ HSTD.out).mono ?_; rintro e w9 ⟨rfl, hst9⟩; have HSTD := Lib.hid hst9; obtain ⟨x0, -, -, -, -⟩ := hst9.at5 4 rfl; obtain ⟨p0, p1⟩ := hst9.at2 1 rfl; clear hst9))
        refine hK.out _ _ ?_ (fun hHeld => ?_)
        · (try dsimp only); (first | exact ⟨x0, p0, p1⟩ | go_keep)
        clear hK K
        try simp only [List.getElem_toArray, List.getElem_cons_zero, List.getElem_cons_succ, Act.put, List.setIfInBounds_toArray, List.set_cons_zero, List.set_cons_succ]
        refine wpAnyH_ready (rs := [9]) (by kernel_rfl) (by simp) ?_
        refine AllReadyH.cons rfl (fun K hK => ?_) AllReadyH.nil
        go_simp
        (first | (go_at_call 119; refine (HALL1.out _ _ HSTD.out).mono ?_; rintro e w8 ⟨rfl, hst8⟩; have HSTD := Lib.hid hst8; obtain ⟨x0, -, -, -, -⟩ := hst8.at5 4 rfl; obtain ⟨p0, p1⟩ := hst8.at2 1 rfl; clear hst8) | (go_at_call 118; refine (HMK1.out _ _ HSTD.out).mono ?_; rintro e w9 ⟨rfl, hst9⟩; have HSTD := Lib.hid hst9; obtain ⟨x0, -, -, -, -⟩ := hst9.at5 4 rfl; obtain ⟨p0, p1⟩ := hst9.at2 1 rfl; clear hst9))
        refine hK.out _ _ ?_ (fun hHeld => ?_)
        · (try dsimp only); (first | exact ⟨x0, p0, p1⟩ | go_keep)
        clear hK K
        try simp only [List.getElem_toArray, List.getElem_cons_zero, List.getElem_cons_succ, Act.put, List.setIfInBounds_toArray, List.set_cons_zero, List.set_cons_succ]
        refine wpAnyH_take (i := 10) (v := ?_) rfl (by kernel_rfl) (by kernel_rfl) (by kernel_rfl) (fun _ _ _ h => h) (Or.inl ⟨by rfl, ?_⟩) (by assumption) ?_
        rotate_left; focus (intro w hSw; (try dsimp only at hSw); go_simp; try (with_reducible rfl); done)
        try simp only [List.getElem_toArray, List.getElem_cons_zero, List.getElem_cons_succ, Act.put, List.setIfInBounds_toArray, List.set_cons_zero, List.set_cons_succ]
        first | (refine wpAnyH_take (i := 11) (v := undef) rfl (by kernel_rfl) (by kernel_rfl) (by kernel_rfl) (fun _ _ _ h => h) (Or.inr ⟨by rfl, rfl⟩) (by assumption) ?_) | (refine wpAnyH_take (i := 11) (v := ?_) rfl (by kernel_rfl) (by kernel_rfl) (by kernel_rfl) (fun _ _ _ h => h) (Or.inl ⟨by rfl, ?_⟩) (by assumption) ?_; rotate_left; focus (intro w hSw; (try dsimp only at hSw); go_simp; try (with_reducible rfl); done))
        try simp only [List.getElem_toArray, List.getElem_cons_zero, List.getElem_cons_succ, Act.put, List.setIfInBounds_toArray, List.set_cons_zero, List.set_cons_succ]
        refine wpAnyH_take (i := 12) (v := ?_) rfl (by kernel_rfl) (by kernel_rfl) (by kernel_rfl) (fun _ _ _ h => h) (Or.inl ⟨by rfl, ?_⟩) (by assumption) ?_
        rotate_left; focus (intro w hSw; (try dsimp only at hSw); go_simp; try (with_reducible rfl); done)
        try simp only [List.getElem_toArray, List.getElem_cons_zero, List.getElem_cons_succ, Act.put, List.setIfInBounds_toArray, List.set_cons_zero, List.set_cons_succ]
        refine wpAnyH_take (i := 13) (v := ?_) rfl (by kernel_rfl) (by kernel_rfl) (by kernel_rfl) (fun _ _ _ h => h) (Or.inl ⟨by rfl, ?_⟩) (by assumption) ?_
        rotate_left; focus (intro w hSw; (try dsimp only at hSw); go_simp; try (with_reducible rfl); done)
        try simp only [List.getElem_toArray, List.getElem_cons_zero, List.getElem_cons_succ, Act.put, List.setIfInBounds_toArray, List.set_cons_zero, List.set_cons_succ]
        refine wpAnyH_done (by kernel_rfl) ?_ _
        all_goals
          clear HALL1 HMK1 HST x0 p0 p1
          cases M2
          all_goals
            go_wp2
            have HST := Lib.hid HSTD.out.get4
            have HSTD := Lib.hid HST.out.drew
            obtain ⟨-, -, -, -, x4⟩ := HST.out.at5 4 rfl
            obtain ⟨p0, p1⟩ := HST.out.at2 2 rfl
            refine wp_region_held_drew (S := (fun w' => w'.cell? ⟨w.heap.size + 1, 4, none⟩ = some (.slice (some ⟨gM, 0, none⟩) nM cM) ∧ w'.cell? ⟨wo.heap.size, 0, none⟩ = some (.int .i64 h) ∧ w'.cell? ⟨wo.heap.size, 1, none⟩ = some (.slice ab body.length cb))) (by kernel_rfl) ?_ (fun hHeld => ?_)
            · (try dsimp only); (first | exact ⟨x4, p0, p1⟩ | go_keep)
            refine wpAnyH_take (i := 0) (v := ?_) rfl (by kernel_rfl) (by kernel_rfl) (by kernel_rfl) (fun _ _ _ h => h) (Or.inl ⟨by rfl, ?_⟩) (by assumption) ?_
            rotate_left; focus (intro w hSw; (try dsimp only at hSw); go_simp; try (with_reducible rfl); done)
            try simp only [List.getElem_toArray, List.getElem_cons_zero, List.getElem_cons_succ, Act.put, List.setIfInBounds_toArray, List.set_cons_zero, List.set_cons_succ]
            refine wpAnyH_take (i := 1) (v := ?_) rfl (by kernel_rfl) (by kernel_rfl) (by kernel_rfl) (fun _ _ _ h => h) (Or.inl ⟨by rfl, ?_⟩) (by assumption) ?_
            rotate_left; focus (intro w hSw; (try dsimp only at hSw); go_simp; try (with_reducible rfl); done)
            try simp only [List.getElem_toArray, List.getElem_cons_zero, List.getElem_cons_succ, Act.put, List.setIfInBounds_toArray, List.set_cons_zero, List.set_cons_succ]
            refine wpAnyH_take (i := 2) (v := ?_) rfl (by kernel_rfl) (by kernel_rfl) (by kernel_rfl) (fun _ _ _ h => h) (Or.inl ⟨by rfl, ?_⟩) (by assumption) ?_
            rotate_left; focus (intro w hSw; (try dsimp only at hSw); go_simp; try (with_reducible rfl); done)
            try simp only [List.getElem_toArray, List.getElem_cons_zero, List.getElem_cons_succ, Act.put, List.setIfInBounds_toArray, List.set_cons_zero, List.set_cons_succ]
            refine wpAnyH_take (i := 3) (v := ?_) rfl (by kernel_rfl) (by kernel_rfl) (by kernel_rfl) (fun _ _ _ h => h) (Or.inl ⟨by rfl, ?_⟩) (by assumption) ?_
            rotate_left; focus (intro w hSw; (try dsimp only at hSw); go_simp; try (with_reducible rfl); done)
            try simp only [List.getElem_toArray, List.getElem_cons_zero, List.getElem_cons_succ, Act.put, List.setIfInBounds_toArray, List.set_cons_zero, List.set_cons_succ]
            refine wpAnyH_take (i := 4) (v := ?_) rfl (by kernel_rfl) (by kernel_rfl) (by kernel_rfl) (fun _ _ _ h => h) (Or.inl ⟨by rfl, ?_⟩) (by assumption) ?_
            rotate_left; focus (intro w hSw; (try dsimp only at hSw); go_simp; try (with_reducible rfl); done)
            try simp only [List.getElem_toArray, List.getElem_cons_zero, List.getElem_cons_succ, Act.put, List.setIfInBounds_toArray, List.set_cons_zero, List.set_cons_succ]
            refine wpAnyH_take (i := 5) (v := ?_) rfl (by kernel_rfl) (by kernel_rfl) (by kernel_rfl) (fun _ _ _ h => h) (Or.inl ⟨by rfl, ?_⟩) (by assumption) ?_
            rotate_left; focus (intro w hSw; (try dsimp only at hSw); go_simp; try (with_reducible rfl); done)
            try simp only [List.getElem_toArray, List.getElem_cons_zero, List.getElem_cons_succ, Act.put, List.setIfInBounds_toArray, List.set_cons_zero, List.set_cons_succ]
            refine wpAnyH_take (i := 6) (v := ?_) rfl (by kernel_rfl) (by kernel_rfl) (by kernel_rfl) (fun _ _ _ h => h) (Or.inl ⟨by rfl, ?_⟩) (by assumption) ?_
            rotate_left; focus (intro w hSw; (try dsimp only at hSw); go_simp; try (with_reducible rfl); done)
            try simp only [List.getElem_toArray, List.getElem_cons_zero, List.getElem_cons_succ, Act.put, List.setIfInBounds_toArray, List.set_cons_zero, List.set_cons_succ]
            refine wpAnyH_take (i := 7) (v := ?_) rfl (by kernel_rfl) (by kernel_rfl) (by kernel_rfl) (fun _ _ _ h => h) (Or.inl ⟨by rfl, ?_⟩) (by assumption) ?_
            rotate_left; focus (intro w hSw; (try dsimp only at hSw); go_simp; try (with_reducible rfl); done)
            try simp only [List.getElem_toArray, List.getElem_cons_zero, List.getElem_cons_succ, Act.put, List.setIfInBounds_toArray, List.set_cons_zero, List.set_cons_succ]
            refine wpAnyH_ready (rs := [8]) (by kernel_rfl) (by simp) ?_
            refine AllReadyH.cons rfl (fun K hK => ?_) AllReadyH.nil
            go_simp
            (first | (go_at_call 119; refine (HALL2.out _ _ HSTD.out).mono ?_; rintro e w8 ⟨rfl, hst8⟩; have HSTD := Lib.hid hst8; obtain ⟨-, -, -, -, x4⟩ := hst8.at5 4 rfl; obtain ⟨p0, p1⟩ := hst8.at2 2 rfl; clear hst8) | (go_at_call 118; refine (HMK2.out _ _ HSTD.out).mono ?_; rintro e w9 ⟨rfl, hst9⟩; have HSTD := Lib.hid hst9; obtain ⟨-, -, -, -, x4⟩ := hst9.at5 4 rfl; obtain ⟨p0, p1⟩ := hst9.at2 2 rfl; clear hst9))
            refine hK.out _ _ ?_ (fun hHeld => ?_)
            · (try dsimp only); (first | exact ⟨x4, p0, p1⟩ | go_keep)
            clear hK K
            try simp only [List.getElem_toArray, List.getElem_cons_zero, List.getElem_cons_succ, Act.put, List.setIfInBounds_toArray, List.set_cons_zero, List.set_cons_succ]
            refine wpAnyH_ready (rs := [9]) (by kernel_rfl) (by simp) ?_
            refine AllReadyH.cons rfl (fun K hK => ?_) AllReadyH.nil
            go_simp
            (first | (go_at_call 119; refine (HALL2.out _ _ HSTD.out).mono ?_; rintro e w8 ⟨rfl, hst8⟩; have HSTD := Lib.hid hst8; obtain ⟨-, -, -, -, x4⟩ := hst8.at5 4 rfl; obtain ⟨p0, p1⟩ := hst8.at2 2 rfl; clear hst8) | (go_at_call 118; refine (HMK2.out _ _ HSTD.out).mono ?_; rintro e w9 ⟨rfl, hst9⟩; have HSTD := Lib.hid hst9; obtain ⟨-, -, -, -, x4⟩ := hst9.at5 4 rfl; obtain ⟨p0, p1⟩ := hst9.at2 2 rfl; clear hst9))
            refine hK.out _ _ ?_ (fun hHeld => ?_)
            · (try dsimp only); (first | exact ⟨x4, p0, p1⟩ | go_keep)
            clear hK K
            try simp only [List.getElem_toArray, List.getElem_cons_zero, List.getElem_cons_succ, Act.put, List.setIfInBounds_toArray, List.set_cons_zero, List.set_cons_succ]
            refine wpAnyH_take (i := 10) (v := ?_) rfl (by kernel_rfl) (by kernel_rfl) (by kernel_rfl) (fun _ _ _ h => h) (Or.inl ⟨by rfl, ?_⟩) (by assumption) ?_
            rotate_left; focus (intro w hSw; (try dsimp only at hSw); go_simp; try (with_reducible rfl); done)
            try simp only [List.getElem_toArray, List.getElem_cons_zero, List.getElem_cons_succ, Act.put, List.setIfInBounds_toArray, List.set_cons_zero, List.set_cons_succ]
            first | (refine wpAnyH_take (i := 11) (v := undef) rfl (by kernel_rfl) (by kernel_rfl) (by kernel_rfl) (fun _ _ _ h => h) (Or.inr ⟨by rfl, rfl⟩) (by assumption) ?_) | (refine wpAnyH_take (i := 11) (v := ?_) rfl (by kernel_rfl) (by kernel_rfl) (by kernel_rfl) (fun _ _ _ h => h) (Or.inl ⟨by rfl, ?_⟩) (by assumption) ?_; rotate_left; focus (intro w hSw; (try dsimp only at hSw); go_simp; try (with_reducible rfl); done))
            try simp only [List.getElem_toArray, List.getElem_cons_zero, List.getElem_cons_succ, Act.put, List.setIfInBounds_toArray, List.set_cons_zero, List.set_cons_succ]
            refine wpAnyH_take (i := 12) (v := ?_) rfl (by kernel_rfl) (by kernel_rfl) (by kernel_rfl) (fun _ _ _ h => h) (Or.inl ⟨by rfl, ?_⟩) (by assumption) ?_
            rotate_left; focus (intro w hSw; (try dsimp only at hSw); go_simp; try (with_reducible rfl); done)
            try simp only [List.getElem_toArray, List.getElem_cons_zero, List.getElem_cons_succ, Act.put, List.setIfInBounds_toArray, List.set_cons_zero, List.set_cons_succ]
            refine wpAnyH_take (i := 13) (v := ?_) rfl (by kernel_rfl) (by kernel_rfl) (by kernel_rfl) (fun _ _ _ h => h) (Or.inl ⟨by rfl, ?_⟩) (by assumption) ?_
            rotate_left; focus (intro w hSw; (try dsimp only at hSw); go_simp; try (with_reducible rfl); done)
            try simp only [List.getElem_toArray, List.getElem_cons_zero, List.getElem_cons_succ, Act.put, List.setIfInBounds_toArray, List.set_cons_zero, List.set_cons_succ]
            refine wpAnyH_done (by kernel_rfl) ?_ _
            all_goals
              clear HALL2 HMK2 HST x4 p0 p1
              have HST := Lib.hid HSTD.out.get4
              clear HSTD
              obtain ⟨p0, p1⟩ := HST.out.at2 3 rfl
              go_wp2
              go_loopg [5, 46] body.length (fun gk mv i wr2 => ∃ (j : Nat) (m : Bool), j ≤ body.length ∧ gk = body.length - j ∧ i = .int .i64 j ∧ mv = .bool m ∧ St w0 wr2 (Fc.aB (.slice (some ⟨gR, 0, none⟩) nR cR) (Fc.rR h (body.take j) Rk) :: Fc.aB (.slice (some ⟨gM, 0, none⟩) nM cM) (Fc.set1 Mk h B2) :: Fc.aB (.slice (some ⟨gE, 0, none⟩) nE cE) (Fc.set1 Ek h B1) :: aCel wo.heap.size 112 #[.int .i64 h, .slice ab body.length cb] :: aCel (w.heap.size + 1) 68 #[.slice (some ⟨gE, 0, none⟩) nE cE, vF, vW, .slice (some ⟨gR, 0, none⟩) nR cR, .slice (some ⟨gM, 0, none⟩) nM cM] :: aCel w.heap.size 24 #[.int .i64 t, .int .i64 n, .slice (some ⟨bp, op, none⟩) l.length cp] :: μ) ∧ Hid (Fc.Prog (E, M, R) (Fc.set1 Ek h B1, Fc.set1 Mk h B2, Fc.rR h (body.take j) Rk) m))
              case atStart => exact ⟨0, _, by omega, by omega, rfl, rfl, HST.out, HPG2⟩
              case round =>
                clear HST HPG2 p0 p1
                obtain ⟨j, m2, hj, hgj, rfl, rfl, hst, HPG⟩ := hrel
                have HGJ := Lib.hid hgj
                clear hgj
                by_cases hlt3 : j < body.length
                · obtain ⟨rfl, _, _⟩ := B3.out (by omega)
                  obtain ⟨s1, s2, -, -⟩ := B4.out j hlt3
                  have hxx := HPB.out (body.getD j (0, 0)) (by rw [show body.getD j (0, 0) = body[j] by simp [List.getD, List.getElem?_eq_getElem hlt3]]; exact List.getElem_mem hlt3)
                  have hrs := Fc.rR_step (h := h) (R := Rk) hlt3
                  have hlR := Fc.rR_len (h := h) (b := body.take j) (R := Rk)
                  rw [HLR.out] at hlR
                  generalize body.getD j (0, 0) = x at *
                  generalize Fc.rR h (body.take j) Rk = Rj at *
                  obtain ⟨x1, x2⟩ := x
                  simp only at s1 s2 hxx hrs
                  have c1 := bkeep hst.bel s1
                  have c2 := bkeep hst.bel s2
                  have hlt4 : (j : Int) < body.length := by omega
                  have lb := World.block_lt_of_cell? _ _ c1
                  rcases hxx with ⟨rfl, h0, -⟩ | ⟨rfl, h0, h1⟩
                  · rw [if_neg (by decide)] at hrs
                    have HRS := Lib.hid hrs
                    have HST := Lib.hid (hst.skip (.cells #[.int .i64 1, .int .i64 x2] 61))
                    clear s1 s2 hst hrs hlR
                    go_wp2
                    go_roundg (body.length - (j + 1))
                    case measure => have := HGJ.out; omega
                    case rel => exact ⟨j + 1, m2, by omega, rfl, by go_num, rfl, by rw [HRS.out]; exact HST.out, by rw [HRS.out]; exact HPG⟩
                  · obtain ⟨q, rfl⟩ := Int.eq_ofNat_of_zero_le h0
                    rw [if_pos rfl, Int.toNat_natCast] at hrs
                    have hq : q < Rj.length := by omega
                    have hh : h < Rj.length := by omega
                    have hhn : (h : Int) < nR := by have := HNR.out; omega
                    obtain ⟨b, hb⟩ : ∃ b, Rj.getD h false = b := ⟨_, rfl⟩
                    rw [hb] at hrs
                    have hpg := HPG.out.r (i := q) (b := b) hq
                    obtain ⟨M3, hM3⟩ : ∃ M3, (b && !Rj.getD q false) = M3 := ⟨_, rfl⟩
                    rw [hM3] at hpg
                    have HMK3 := Lib.hid fun W μ hs => fcMark_any w0 W gR nR cR Rj q b μ hq (by rw [HNR.out]; omega) (hst := hs)
                    rw [hM3] at HMK3
                    have HC1 := Lib.hid fun (W : World) (μ : List Asrt) (hs : St w0 W (Fc.aB (.slice (some ⟨gR, 0, none⟩) nR cR) Rj :: μ)) => (show W.cell? ⟨gR, h, none⟩ = some (.bool b) from by
                      unfold Fc.aB at hs
                      have := (hs.cellOwn (f := Value.bool) (fun _ => rfl) h hh false).1
                      rw [hb] at this
                      exact this)
                    have HC2 := Lib.hid fun (W : World) (μ : List Asrt) (hs : St w0 W (Fc.aB (.slice (some ⟨gR, 0, none⟩) nR cR) (Fc.set1 Rj q b) :: μ)) => (show W.cell? ⟨gR, h, none⟩ = some (.bool b) from by
                      unfold Fc.aB at hs
                      have := (hs.cellOwn (f := Value.bool) (fun _ => rfl) h (by rw [Fc.set1_len]; exact hh) false).1
                      rw [Fc.set1_self hb hq] at this
                      exact this)
                    have HST := Lib.hid (hst.alloc #[.int .i64 2, .int .i64 q] 61).get2
                    have HPG3 := Lib.hid hpg
                    have HRS := Lib.hid hrs
                    clear s1 s2 hst hrs hlR hb hM3 hpg hq hh HPG
                    cases M3
                    all_goals
                      go_wp2
                      have HSTD := Lib.hid HST.out.drew
                      obtain ⟨-, -, -, x3, -⟩ := HST.out.at5 5 rfl
                      obtain ⟨p0, p1⟩ := HST.out.at2 4 rfl
                      obtain ⟨y0, y1⟩ := HST.out.at2 1 rfl
                      have r0 := HC1.out _ _ HST.out
                      refine wp_region_held_drew (S := (fun w' => w'.cell? ⟨w.heap.size + 1, 3, none⟩ = some (.slice (some ⟨gR, 0, none⟩) nR cR) ∧ w'.cell? ⟨wo.heap.size, 0, none⟩ = some (.int .i64 h) ∧ w'.cell? ⟨wr.heap.size, 1, none⟩ = some (.int .i64 q) ∧ w'.cell? ⟨gR, h, none⟩ = some (.bool b))) (by kernel_rfl) ?_ (fun hHeld => ?_)
                      · (try dsimp only); (first | exact ⟨x3, p0, y1, r0⟩ | go_keep)
                      refine wpAnyH_take (i := 0) (v := ?_) rfl (by kernel_rfl) (by kernel_rfl) (by kernel_rfl) (fun _ _ _ h => h) (Or.inl ⟨by rfl, ?_⟩) (by assumption) ?_
                      rotate_left; focus (intro w hSw; (try dsimp only at hSw); go_simp; try (with_reducible rfl); done)
                      try simp only [List.getElem_toArray, List.getElem_cons_zero, List.getElem_cons_succ, Act.put, List.setIfInBounds_toArray, List.set_cons_zero, List.set_cons_succ]
                      refine wpAnyH_take (i := 1) (v := ?_) rfl (by kernel_rfl) (by kernel_rfl) (by kernel_rfl) (fun _ _ _ h => h) (Or.inl ⟨by rfl, ?_⟩) (by assumption) ?_
                      rotate_left; focus (intro w hSw; (try dsimp only at hSw); go_simp; try (with_reducible rfl); done)
                      try simp only [List.getElem_toArray, List.getElem_cons_zero, List.getElem_cons_succ, Act.put, List.setIfInBounds_toArray, List.set_cons_zero, List.set_cons_succ]
                      refine wpAnyH_take (i := 2) (v := ?_) rfl (by kernel_rfl) (by kernel_rfl) (by kernel_rfl) (fun _ _ _ h => h) (Or.inl ⟨by rfl, ?_⟩) (by assumption) ?_
                      rotate_left; focus (intro w hSw; (try dsimp only at hSw); go_simp; try (with_reducible rfl); done)
                      try simp only [List.getElem_toArray, List.getElem_cons_zero, List.getElem_cons_succ, Act.put, List.setIfInBounds_toArray, List.set_cons_zero, List.set_cons_succ]
                      refine wpAnyH_take (i := 3) (v := ?_) rfl (by kernel_rfl) (by kernel_rfl) (by kernel_rfl) (fun _ _ _ h => h) (Or.inl ⟨by rfl, ?_⟩) (by assumption) ?_
                      rotate_left; focus (intro w hSw; (try dsimp only at hSw); go_simp; try (with_reducible rfl); done)
                      try simp only [List.getElem_toArray, List.getElem_cons_zero, List.getElem_cons_succ, Act.put, List.setIfInBounds_toArray, List.set_cons_zero, List.set_cons_succ]
                      refine wpAnyH_take (i := 4) (v := ?_) rfl (by kernel_rfl) (by kernel_rfl) (by kernel_rfl) (fun _ _ _ h => h) (Or.inl ⟨by rfl, ?_⟩) (by assumption) ?_
                      rotate_left; focus (intro w hSw; (try dsimp only at hSw); go_simp; try (with_reducible rfl); done)
                      try simp only [List.getElem_toArray, List.getElem_cons_zero, List.getElem_cons_succ, Act.put, List.setIfInBounds_toArray, List.set_cons_zero, List.set_cons_succ]
                      refine wpAnyH_take (i := 5) (v := ?_) rfl (by kernel_rfl) (by kernel_rfl) (by kernel_rfl) (fun _ _ _ h => h) (Or.inl ⟨by rfl, ?_⟩) (by assumption) ?_
                      rotate_left; focus (intro w hSw; (try dsimp only at hSw); go_simp; try (with_reducible rfl); done)
                      try simp only [List.getElem_toArray, List.getElem_cons_zero, List.getElem_cons_succ, Act.put, List.setIfInBounds_toArray, List.set_cons_zero, List.set_cons_succ]
                      refine wpAnyH_take (i := 6) (v := ?_) rfl (by kernel_rfl) (by kernel_rfl) (by kernel_rfl) (fun _ _ _ h => h) (Or.inl ⟨by rfl, ?_⟩) (by assumption) ?_
                      rotate_left; focus (intro w hSw; (try dsimp only at hSw); go_simp; try (with_reducible rfl); done)
                      try simp only [List.getElem_toArray, List.getElem_cons_zero, List.getElem_cons_succ, Act.put, List.setIfInBounds_toArray, List.set_cons_zero, List.set_cons_succ]
                      refine wpAnyH_take (i := 7) (v := ?_) rfl (by kernel_rfl) (by kernel_rfl) (by kernel_rfl) (fun _ _ _ h => h) (Or.inl ⟨by rfl, ?_⟩) (by assumption) ?_
                      rotate_left; focus (intro w hSw; (try dsimp only at hSw); go_simp; try (with_reducible rfl); done)
                      try simp only [List.getElem_toArray, List.getElem_cons_zero, List.getElem_cons_succ, Act.put, List.setIfInBounds_toArray, List.set_cons_zero, List.set_cons_succ]
                      refine wpAnyH_take (i := 8) (v := ?_) rfl (by kernel_rfl) (by kernel_rfl) (by kernel_rfl) (fun _ _ _ h => h) (Or.inl ⟨by rfl, ?_⟩) (by assumption) ?_
                      rotate_left; focus (intro w hSw; (try dsimp only at hSw); go_simp; try (with_reducible rfl); done)
                      try simp only [List.getElem_toArray, List.getElem_cons_zero, List.getElem_cons_succ, Act.put, List.setIfInBounds_toArray, List.set_cons_zero, List.set_cons_succ]
                      refine wpAnyH_take (i := 9) (v := ?_) rfl (by kernel_rfl) (by kernel_rfl) (by kernel_rfl) (fun _ _ _ h => h) (Or.inl ⟨by rfl, ?_⟩) (by assumption) ?_
                      rotate_left; focus (intro w hSw; (try dsimp only at hSw); go_simp; try (with_reducible rfl); done)
                      try simp only [List.getElem_toArray, List.getElem_cons_zero, List.getElem_cons_succ, Act.put, List.setIfInBounds_toArray, List.set_cons_zero, List.set_cons_succ]
                      refine wpAnyH_ready (rs := [10]) (by kernel_rfl) (by simp) ?_
                      refine AllReadyH.cons rfl (fun K hK => ?_) AllReadyH.nil
                      go_simp
                      (first | (go_at_call 118; refine (HMK3.out _ _ HSTD.out).mono ?_; rintro e w9 ⟨rfl, hst9⟩; have HSTD := Lib.hid hst9; obtain ⟨-, -, -, x3, -⟩ := hst9.at5 5 rfl; obtain ⟨p0, p1⟩ := hst9.at2 4 rfl; obtain ⟨y0, y1⟩ := hst9.at2 1 rfl; have r0 := HC2.out _ _ hst9; clear hst9))
                      refine hK.out _ _ ?_ (fun hHeld => ?_)
                      · (try dsimp only); (first | exact ⟨x3, p0, y1, r0⟩ | go_keep)
                      clear hK K
                      try simp only [List.getElem_toArray, List.getElem_cons_zero, List.getElem_cons_succ, Act.put, List.setIfInBounds_toArray, List.set_cons_zero, List.set_cons_succ]
                      refine wpAnyH_take (i := 11) (v := ?_) rfl (by kernel_rfl) (by kernel_rfl) (by kernel_rfl) (fun _ _ _ h => h) (Or.inl ⟨by rfl, ?_⟩) (by assumption) ?_
                      rotate_left; focus (intro w hSw; (try dsimp only at hSw); go_simp; try (with_reducible rfl); done)
                      try simp only [List.getElem_toArray, List.getElem_cons_zero, List.getElem_cons_succ, Act.put, List.setIfInBounds_toArray, List.set_cons_zero, List.set_cons_succ]
                      first | (refine wpAnyH_take (i := 12) (v := undef) rfl (by kernel_rfl) (by kernel_rfl) (by kernel_rfl) (fun _ _ _ h => h) (Or.inr ⟨by rfl, rfl⟩) (by assumption) ?_) | (refine wpAnyH_take (i := 12) (v := ?_) rfl (by kernel_rfl) (by kernel_rfl) (by kernel_rfl) (fun _ _ _ h => h) (Or.inl ⟨by rfl, ?_⟩) (by assumption) ?_; rotate_left; focus (intro w hSw; (try dsimp only at hSw); go_simp; try (with_reducible rfl); done))
                      try simp only [List.getElem_toArray, List.getElem_cons_zero, List.getElem_cons_succ, Act.put, List.setIfInBounds_toArray, List.set_cons_zero, List.set_cons_succ]
                      refine wpAnyH_take (i := 13) (v := ?_) rfl (by kernel_rfl) (by kernel_rfl) (by kernel_rfl) (fun _ _ _ h => h) (Or.inl ⟨by rfl, ?_⟩) (by assumption) ?_
                      rotate_left; focus (intro w hSw; (try dsimp only at hSw); go_simp; try (with_reducible rfl); done)
                      try simp only [List.getElem_toArray, List.getElem_cons_zero, List.getElem_cons_succ, Act.put, List.setIfInBounds_toArray, List.set_cons_zero, List.set_cons_succ]
                      refine wpAnyH_take (i := 14) (v := ?_) rfl (by kernel_rfl) (by kernel_rfl) (by kernel_rfl) (fun _ _ _ h => h) (Or.inl ⟨by rfl, ?_⟩) (by assumption) ?_
                      rotate_left; focus (intro w hSw; (try dsimp only at hSw); go_simp; try (with_reducible rfl); done)
                      try simp only [List.getElem_toArray, List.getElem_cons_zero, List.getElem_cons_succ, Act.put, List.setIfInBounds_toArray, List.set_cons_zero, List.set_cons_succ]
                      refine wpAnyH_done (by kernel_rfl) ?_ _
                      all_goals
                        clear HMK3 HST x3 p0 p1 y0 y1 r0
                        go_wp2
                        go_roundg (body.length - (j + 1))
                        case measure => have := HGJ.out; omega
                        case rel => exact ⟨j + 1, _, by omega, rfl, by go_num, rfl, by rw [HRS.out]; exact HSTD.out.get2.drop, by rw [HRS.out]; exact HPG3⟩
                · obtain rfl : j = body.length := by omega
                  rw [List.take_length] at hst HPG
                  have HST := Lib.hid hst
                  clear hst
                  go_wp2
                  go_roundg (l.length - (k + 1))
                  case measure => have := HGK.out; omega
                  case rel => exact ⟨k + 1, m2, by omega, rfl, by go_num, rfl, by rw [HSE.out, HSM.out, HSR.out, HB1.out, HB2.out]; exact HST.out.get4.drop, by rw [HSE.out, HSM.out, HSR.out, HB1.out, HB2.out]; exact HPG⟩
    · obtain rfl : k = l.length := by omega
      rw [List.take_length] at hst HPG
      have HST := Lib.hid hst
      clear hst
      go_wp2
      go_ret
      exact ⟨m, rfl, HPG.out, HST.out.get5.get5.drop.drop⟩
end Go.Proofs.Ytkhjncbjdldpbaa

/-
  What a pass over numbers reports: whether something is new. (Plain functions; nothing of the program is claimed.)
-/
namespace Go.Proofs.Ytkhjncbjdldpbaa
set_option linter.unusedVariables false

namespace Fc
/-- From W0 to W: is something new? -/
def ProgN (K : Nat) (W0 W : List Nat) (m : Bool) : Prop := (m = false → W = W0) ∧ (m = true → room K W < room K W0)
theorem ProgN.refl (K : Nat) (W : List Nat) : ProgN K W W false := ⟨fun _ => rfl, fun h => by cases h⟩
theorem up_eq {W : List Nat} {i b : Nat} (hi : i < W.length) (h : W.getD i 0 ||| b = W.getD i 0) : up W i b = W := by
  unfold up
  rw [h]
  apply List.ext_getElem (by simp)
  intro j h1 h2
  rw [List.getElem_set]
  split
  · next h3 => subst h3; simp [List.getD, List.getElem?_eq_getElem hi]
  · rfl
theorem ProgN.up {K : Nat} {W0 W : List Nat} {m : Bool} (h : ProgN K W0 W m) {i b : Nat} (hi : i < W.length) (hK : W.getD i 0 ||| b < K) : ProgN K W0 (Fc.up W i b) (decide (W.getD i 0 ||| b ≠ W.getD i 0) || m) := by
  obtain ⟨r1, r2⟩ := room_up hi hK
  by_cases hn : W.getD i 0 ||| b = W.getD i 0
  · rw [up_eq hi hn, decide_eq_false (by simpa using hn), Bool.false_or]; exact h
  · rw [decide_eq_true hn, Bool.true_or]
    refine ⟨(fun g => by cases g), fun _ => ?_⟩
    have h3 := r2 hn
    cases m
    · rw [← h.1 rfl]; exact h3
    · have := h.2 rfl; omega
theorem rdF_step {E M : List Bool} {l : List Pr} {X : List Nat} {k : Nat} (h : k < l.length) : rdF E M (l.take (k + 1)) X = if all M true (l.getD k (0, [])).2 = true then Fc.up (rdF E M (l.take k) X) (l.getD k (0, [])).1.toNat (beg E (rdF E M (l.take k) X) 0 (l.getD k (0, [])).2) else rdF E M (l.take k) X := by
  unfold rdF
  rw [List.take_succ_eq_append_getElem h, List.foldl_append]
  simp [List.getD, List.getElem?_eq_getElem h]
theorem fol_step {E : List Bool} {F : List Nat} {l : List Pr} {X : List Nat} {k : Nat} (h : k < l.length) : fol E F (l.take (k + 1)) X = folB E F (l.getD k (0, [])).1.toNat (l.getD k (0, [])).2 (fol E F (l.take k) X) := by
  unfold fol
  rw [List.take_succ_eq_append_getElem h, List.foldl_append]
  simp [List.getD, List.getElem?_eq_getElem h]
theorem folB_cons {E : List Bool} {F : List Nat} {h : Nat} {x : Int × Int} {r : List (Int × Int)} {W : List Nat} : folB E F h (x :: r) W = folB E F h r (if x.1 = 2 then Fc.up W x.2.toNat (beg E F (W.getD h 0) r) else W) := rfl
theorem folB_len {E : List Bool} {F : List Nat} {h : Nat} {r : List (Int × Int)} : ∀ {W : List Nat}, (folB E F h r W).length = W.length := by
  induction r with
  | nil => intro W; rfl
  | cons x r ih => intro W; rw [folB_cons, ih]; split <;> simp [up_len]
theorem fol_len {E : List Bool} {F : List Nat} {l : List Pr} : ∀ {W : List Nat}, (fol E F l W).length = W.length := by
  induction l with
  | nil => intro W; rfl
  | cons p l ih => intro W; show (fol E F l (folB E F p.1.toNat p.2 W)).length = _; rw [ih, folB_len]
theorem up_lt {k : Nat} {W : List Nat} {i b : Nat} (hW : ∀ j, W.getD j 0 < 2 ^ k) (hb : b < 2 ^ k) : ∀ j, (Fc.up W i b).getD j 0 < 2 ^ k := by
  intro j
  by_cases hi : i < W.length
  · rw [up_get j hi]
    split
    · exact Nat.or_lt_two_pow (hW i) hb
    · exact hW j
  · unfold Fc.up; rw [List.set_eq_of_length_le (by omega)]; exact hW j
end Fc
end Go.Proofs.Ytkhjncbjdldpbaa

/-
  sets of package facts.
-/
namespace Go.Proofs.Ytkhjncbjdldpbaa
set_option linter.unusedVariables false
set_option linter.unusedSimpArgs false
open Go.ChangeShapes Go.WideShapes Go.ChangeAt Go.RowKit

theorem St.get7 {w0 w : World} {μ : List Asrt} {A B C D E F G : Asrt} (h : St w0 w (A :: B :: C :: D :: E :: F :: G :: μ)) : St w0 w (G :: A :: B :: C :: D :: E :: F :: μ) :=
  h.perm (by
    have := (List.perm_middle (l₁ := [A, B, C, D, E, F]) (l₂ := μ) (a := G))
    simpa using this)
namespace Fc
theorem iter_len {f : List Nat → List Nat} (h : ∀ W, (f W).length = W.length) : ∀ {j : Nat} {W : List Nat}, (iter f j W).length = W.length := by
  intro j
  induction j with
  | zero => intro W; rfl
  | succ j ih => intro W; rw [iter, ih, h]
theorem iter_lt {f : List Nat → List Nat} (P : List Nat → Prop) (h : ∀ W, P W → P (f W)) : ∀ {j : Nat} {W : List Nat}, P W → P (iter f j W) := by
  intro j
  induction j with
  | zero => intro W hW; exact hW
  | succ j ih => intro W hW; exact ih (h W hW)
theorem rdF_lt {E M : List Bool} {k : Nat} {l : List Pr} : (∀ p ∈ l, ∀ x ∈ p.2, x.1 = 1 → x.2.toNat < k) → ∀ {F : List Nat}, (∀ i, F.getD i 0 < 2 ^ k) → ∀ i, (rdF E M l F).getD i 0 < 2 ^ k := by
  induction l with
  | nil => intro _ F hF; exact hF
  | cons p l ih =>
    intro hl F hF
    rw [rdF_cons]
    refine ih (fun q hq => hl q (.tail _ hq)) ?_
    split
    · exact up_lt hF (beg_lt hF (Nat.two_pow_pos k) (hl p (.head _)))
    · exact hF
theorem folB_lt {E : List Bool} {F : List Nat} {k h : Nat} (hF : ∀ i, F.getD i 0 < 2 ^ k) {r : List (Int × Int)} : (∀ x ∈ r, x.1 = 1 → x.2.toNat < k) → ∀ {W : List Nat}, (∀ i, W.getD i 0 < 2 ^ k) → ∀ i, (folB E F h r W).getD i 0 < 2 ^ k := by
  induction r with
  | nil => intro _ W hW; exact hW
  | cons x r ih =>
    intro hx W hW
    rw [folB_cons]
    refine ih (fun y hy => hx y (.tail _ hy)) ?_
    split
    · exact up_lt hW (beg_lt hF (hW h) (fun y hy => hx y (.tail _ hy)))
    · exact hW
theorem fol_lt {E : List Bool} {F : List Nat} {k : Nat} (hF : ∀ i, F.getD i 0 < 2 ^ k) {l : List Pr} : (∀ p ∈ l, ∀ x ∈ p.2, x.1 = 1 → x.2.toNat < k) → ∀ {W : List Nat}, (∀ i, W.getD i 0 < 2 ^ k) → ∀ i, (fol E F l W).getD i 0 < 2 ^ k := by
  induction l with
  | nil => intro _ W hW; exact hW
  | cons p l ih =>
    intro hl W hW
    exact ih (fun q hq => hl q (.tail _ hq)) (folB_lt hF (hl p (.head _)) hW)
theorem okP_lt {n : Nat} {p : Pr} (h : okP n p) : ∀ x ∈ p.2, x.1 = 1 → x.2.toNat < 64 := by
  intro x hx h1
  rcases h.2.2 x hx with ⟨-, a, b⟩ | ⟨a, -⟩
  · omega
  · omega
end Fc

set_option maxRecDepth 100000 in
set_option maxHeartbeats 1600000 in
theorem fcSets_any (w0 w : World) (t n : Int) (vp : Value) (l : List Fc.Pr) (N gE nE cE gF nF cF gW nW cW gM nM cM : Nat) (vR : Value) (E M : List Bool) (X Y : List Nat) (μ : List Asrt) (F : Nat → Prop) (hp : Enc.prods.R F w0 [vp] l) (hl : l.length ≤ 40) (hok : ∀ p ∈ l, Fc.okP N p) (hE : E.length = N) (hM : M.length = N) (hX : X.length = N) (hY : Y.length = N) (hnE : nE = N) (hnM : nM = N) (hnF : nF = N) (hnW : nW = N)
    (hXb : ∀ i, X.getD i 0 < 2 ^ 64) (hYb : ∀ i, Y.getD i 0 < 2 ^ 64)
    (hst : St w0 w (Fc.aU (.slice (some ⟨gF, 0, none⟩) nF cF) X :: Fc.aU (.slice (some ⟨gW, 0, none⟩) nW cW) Y :: Fc.aB (.slice (some ⟨gM, 0, none⟩) nM cM) M :: Fc.aB (.slice (some ⟨gE, 0, none⟩) nE cE) E :: μ)) :
    Calls Try.prog 96 #[.agg #[.int .i64 t, .int .i64 n, vp], .agg #[.slice (some ⟨gE, 0, none⟩) nE cE, .slice (some ⟨gF, 0, none⟩) nF cF, .slice (some ⟨gW, 0, none⟩) nW cW, vR, .slice (some ⟨gM, 0, none⟩) nM cM]] w fun e w' => ∃ j q, e = .returned (.tuple #[]) ∧
      Fc.rdF E M l (Fc.iter (Fc.rdF E M l) j X) = Fc.iter (Fc.rdF E M l) j X ∧ Fc.fol E (Fc.iter (Fc.rdF E M l) j X) l (Fc.iter (Fc.fol E (Fc.iter (Fc.rdF E M l) j X) l) q Y) = Fc.iter (Fc.fol E (Fc.iter (Fc.rdF E M l) j X) l) q Y ∧
      St w0 w' (Fc.aU (.slice (some ⟨gF, 0, none⟩) nF cF) (Fc.iter (Fc.rdF E M l) j X) :: Fc.aU (.slice (some ⟨gW, 0, none⟩) nW cW) (Fc.iter (Fc.fol E (Fc.iter (Fc.rdF E M l) j X) l) q Y) :: Fc.aB (.slice (some ⟨gM, 0, none⟩) nM cM) M :: Fc.aB (.slice (some ⟨gE, 0, none⟩) nE cE) E :: μ) := by
  obtain ⟨ap, bp, op, cp, rfl, -, p3, p4⟩ := slProds hp
  have P3 := Lib.hid p3; have P4 := Lib.hid p4; have HOK := Lib.hid hok; have HE := Lib.hid hE; have HM := Lib.hid hM; have HX := Lib.hid hX; have HY := Lib.hid hY; have HNE := Lib.hid hnE; have HNM := Lib.hid hnM; have HNF := Lib.hid hnF; have HNW := Lib.hid hnW; have HXB := Lib.hid hXb; have HYB := Lib.hid hYb
  have hst1 := ((hst.alloc #[.int .i64 t, .int .i64 n, .slice ap l.length cp] 24).alloc #[.slice (some ⟨gE, 0, none⟩) nE cE, .slice (some ⟨gF, 0, none⟩) nF cF, .slice (some ⟨gW, 0, none⟩) nW cW, vR, .slice (some ⟨gM, 0, none⟩) nM cM] 68)
  simp only [World.size_alloc] at hst1
  have HST := Lib.hid hst1
  clear hst hst1 hp p3 p4 hok hE hM hX hY hnE hnM hnF hnW hXb hYb
  go_enter Try.func96, Try.ntmps96
  go_wp2
  have HST0 := HST
  go_loopg [4] (Fc.room (2 ^ 64) X + 1) (fun gk mv wr => ∃ (j : Nat) (m : Bool), mv = .bool m ∧ gk = Fc.room (2 ^ 64) (Fc.iter (Fc.rdF E M l) j X) + (if m = true then 1 else 0) ∧ Hid (m = false → Fc.rdF E M l (Fc.iter (Fc.rdF E M l) j X) = Fc.iter (Fc.rdF E M l) j X) ∧ St w0 wr (aCel (w.heap.size + 1) 68 #[.slice (some ⟨gE, 0, none⟩) nE cE, .slice (some ⟨gF, 0, none⟩) nF cF, .slice (some ⟨gW, 0, none⟩) nW cW, vR, .slice (some ⟨gM, 0, none⟩) nM cM] :: aCel w.heap.size 24 #[.int .i64 t, .int .i64 n, .slice ap l.length cp] :: Fc.aU (.slice (some ⟨gF, 0, none⟩) nF cF) (Fc.iter (Fc.rdF E M l) j X) :: Fc.aU (.slice (some ⟨gW, 0, none⟩) nW cW) Y :: Fc.aB (.slice (some ⟨gM, 0, none⟩) nM cM) M :: Fc.aB (.slice (some ⟨gE, 0, none⟩) nE cE) E :: μ))
  case atStart => exact ⟨0, true, rfl, by simp [Fc.iter], Lib.hid (by simp), HST.out⟩
  case round =>
    clear HST
    rename World => wo
    obtain ⟨j, m, rfl, hgk, HFX, hst⟩ := hrel
    have HGK := Lib.hid hgk
    have HST := Lib.hid hst
    clear hgk hst
    cases m
    · have hfx := HFX.out rfl
      obtain ⟨Xf, hXf⟩ : ∃ Xf, Fc.iter (Fc.rdF E M l) j X = Xf := ⟨_, rfl⟩
      have hXl : Xf.length = N := by rw [← hXf, Fc.iter_len (fun W => Fc.rdF_len)]; exact HX.out
      have hXt : ∀ i, Xf.getD i 0 < 2 ^ 64 := by rw [← hXf]; exact Fc.iter_lt (fun W => ∀ i, W.getD i 0 < 2 ^ 64) (fun W hW => Fc.rdF_lt (fun p hp => Fc.okP_lt (HOK.out p hp)) hW) HXB.out
      rw [hXf] at hfx HST
      have HXF := Lib.hid hXf; have HXL := Lib.hid hXl; have HXT := Lib.hid hXt; have HFX2 := Lib.hid hfx
      clear HFX hXf hXl hXt hfx HGK HST0
      go_wp2
      go_loopg [7] (Fc.room (2 ^ 64) Y + 1) (fun gk mv wr => ∃ (q : Nat) (m : Bool), mv = .bool m ∧ gk = Fc.room (2 ^ 64) (Fc.iter (Fc.fol E Xf l) q Y) + (if m = true then 1 else 0) ∧ Hid (m = false → Fc.fol E Xf l (Fc.iter (Fc.fol E Xf l) q Y) = Fc.iter (Fc.fol E Xf l) q Y) ∧ St w0 wr (aCel (w.heap.size + 1) 68 #[.slice (some ⟨gE, 0, none⟩) nE cE, .slice (some ⟨gF, 0, none⟩) nF cF, .slice (some ⟨gW, 0, none⟩) nW cW, vR, .slice (some ⟨gM, 0, none⟩) nM cM] :: aCel w.heap.size 24 #[.int .i64 t, .int .i64 n, .slice ap l.length cp] :: Fc.aU (.slice (some ⟨gF, 0, none⟩) nF cF) Xf :: Fc.aU (.slice (some ⟨gW, 0, none⟩) nW cW) (Fc.iter (Fc.fol E Xf l) q Y) :: Fc.aB (.slice (some ⟨gM, 0, none⟩) nM cM) M :: Fc.aB (.slice (some ⟨gE, 0, none⟩) nE cE) E :: μ))
      case atStart => exact ⟨0, true, rfl, by simp [Fc.iter], Lib.hid (by simp), HST.out⟩
      case round =>
        clear HST
        obtain ⟨q, m, rfl, hgk, HFX, hst⟩ := hrel
        have HGK := Lib.hid hgk
        have HST := Lib.hid hst
        clear hgk hst
        cases m
        · have HQ := Lib.hid (HFX.out rfl)
          clear HFX
          go_wp2
          refine bodyPost_end (v := .tuple #[]) (by simp [results, Try.results96, go_sem]) rfl ?_
          exact ⟨j, q, rfl, by rw [HXF.out]; exact HFX2.out, by rw [HXF.out]; exact HQ.out, by rw [HXF.out]; exact HST.out.drop.drop⟩
        · clear HFX
          have hlX : (Fc.iter (Fc.fol E Xf l) q Y).length = N := by rw [Fc.iter_len (fun W => Fc.fol_len)]; exact HY.out
          have hXlt : ∀ i, (Fc.iter (Fc.fol E Xf l) q Y).getD i 0 < 2 ^ 64 := Fc.iter_lt (fun W => ∀ i, W.getD i 0 < 2 ^ 64) (fun W hW => Fc.fol_lt HXT.out (fun p hp => Fc.okP_lt (HOK.out p hp)) hW) HYB.out
          have hit : Fc.iter (Fc.fol E Xf l) (q + 1) Y = Fc.fol E Xf l (Fc.iter (Fc.fol E Xf l) q Y) := by rw [Fc.iter_add]; rfl
          have HLX := Lib.hid hlX; have HXLT := Lib.hid hXlt; have HIT := Lib.hid hit
          generalize Fc.iter (Fc.fol E Xf l) q Y = Yq at *
          obtain ⟨g0, g1, g2⟩ := HST.out.at3 1 rfl
          clear hlX hXlt hit
          go_wp2
          clear g0 g1 g2
          go_loopg [7, 42] l.length (fun gk2 mv i wr2 => ∃ (k : Nat) (m : Bool), k ≤ l.length ∧ gk2 = l.length - k ∧ i = .int .i64 k ∧ mv = .bool m ∧ Hid ((Fc.fol E Xf (l.take k) Yq).length = N ∧ (∀ i, (Fc.fol E Xf (l.take k) Yq).getD i 0 < 2 ^ 64)) ∧ Hid (Fc.ProgN (2 ^ 64) Yq (Fc.fol E Xf (l.take k) Yq) m) ∧ St w0 wr2 (aCel (w.heap.size + 1) 68 #[.slice (some ⟨gE, 0, none⟩) nE cE, .slice (some ⟨gF, 0, none⟩) nF cF, .slice (some ⟨gW, 0, none⟩) nW cW, vR, .slice (some ⟨gM, 0, none⟩) nM cM] :: aCel w.heap.size 24 #[.int .i64 t, .int .i64 n, .slice ap l.length cp] :: Fc.aU (.slice (some ⟨gF, 0, none⟩) nF cF) Xf :: Fc.aU (.slice (some ⟨gW, 0, none⟩) nW cW) (Fc.fol E Xf (l.take k) Yq) :: Fc.aB (.slice (some ⟨gM, 0, none⟩) nM cM) M :: Fc.aB (.slice (some ⟨gE, 0, none⟩) nE cE) E :: μ))
          case atStart => exact ⟨0, false, by omega, by omega, rfl, rfl, Lib.hid ⟨HLX.out, HXLT.out⟩, Lib.hid (Fc.ProgN.refl _ _), HST.out⟩
          case round =>
            clear HST
            obtain ⟨k, m, hk, hgk2, rfl, rfl, HLB, HPN, hst⟩ := hrel
            have HGK2 := Lib.hid hgk2
            clear hgk2
            by_cases hlt : k < l.length
            · obtain ⟨rfl, _, _⟩ := P3.out (by omega)
              obtain ⟨vb, s1, s2, hbody, -⟩ := P4.out k hlt
              have hokp := HOK.out (l.getD k (0, [])) (by rw [show l.getD k (0, []) = l[k] by simp [List.getD, List.getElem?_eq_getElem hlt]]; exact List.getElem_mem hlt)
              have hsF := Fc.fol_step (E := E) (F := Xf) (X := Yq) hlt
              generalize l.getD k (0, []) = p at *
              obtain ⟨h0, body⟩ := p
              simp only at s1 s2 hbody hsF
              have hpb := hokp.2.2
              obtain ⟨hp0, hp1, -⟩ := hokp
              simp only at hp0 hp1 hpb
              obtain ⟨h, rfl⟩ := Int.eq_ofNat_of_zero_le hp0
              rw [Int.toNat_natCast] at hsF
              have HSF := Lib.hid hsF; have HBODY := Lib.hid hbody; have HPB := Lib.hid hpb
              generalize Fc.fol E Xf (l.take k) Yq = Yk at *
              have hlt2 : (k : Int) < l.length := by omega
              have s1 := bkeep hst.bel s1
              have s2 := bkeep hst.bel s2
              obtain ⟨ab, bb, ob, cb, rfl, hbl, b3, b4⟩ := slTwo hbody
              have B3 := Lib.hid b3; have B4 := Lib.hid b4
              have hbl2 : (body.length : Int) ≤ 140737488355328 := by omega
              have HST := Lib.hid (hst.alloc #[.int .i64 h, .slice ab body.length cb] 112)
              obtain ⟨p0, p1⟩ := HST.out.at2 0 rfl
              rename World => wp
              clear hst hsF hbody hpb hp0 hbl b3 b4
              go_wp2
              clear p0 p1
              go_loopg [7, 49] body.length (fun gk3 mv i wr3 => ∃ (d : Nat) (m2 : Bool) (Wd : List Nat), d ≤ body.length ∧ gk3 = body.length - d ∧ i = .int .i64 d ∧ mv = .bool m2 ∧ Hid (Wd.length = N ∧ (∀ i, Wd.getD i 0 < 2 ^ 64)) ∧ Hid (Fc.folB E Xf h (body.drop d) Wd = Fc.folB E Xf h body Yk) ∧ Hid (Fc.ProgN (2 ^ 64) Yq Wd m2) ∧ St w0 wr3 (aCel wp.heap.size 112 #[.int .i64 h, .slice ab body.length cb] :: aCel (w.heap.size + 1) 68 #[.slice (some ⟨gE, 0, none⟩) nE cE, .slice (some ⟨gF, 0, none⟩) nF cF, .slice (some ⟨gW, 0, none⟩) nW cW, vR, .slice (some ⟨gM, 0, none⟩) nM cM] :: aCel w.heap.size 24 #[.int .i64 t, .int .i64 n, .slice (some ⟨bp, op, none⟩) l.length cp] :: Fc.aU (.slice (some ⟨gF, 0, none⟩) nF cF) Xf :: Fc.aU (.slice (some ⟨gW, 0, none⟩) nW cW) Wd :: Fc.aB (.slice (some ⟨gM, 0, none⟩) nM cM) M :: Fc.aB (.slice (some ⟨gE, 0, none⟩) nE cE) E :: μ))
              case atStart => exact ⟨0, m, Yk, by omega, by omega, rfl, rfl, HLB, Lib.hid rfl, HPN, HST.out⟩
              case round =>
                clear HST HPN HLB
                obtain ⟨d, m2, Wd, hd, hgk3, rfl, rfl, HLB, HFB, HPN, hst⟩ := hrel
                have HGK3 := Lib.hid hgk3
                clear hgk3
                by_cases hlt3 : d < body.length
                · obtain ⟨rfl, _, _⟩ := B3.out (by omega)
                  obtain ⟨s1, s2, -, -⟩ := B4.out d hlt3
                  have hdr := Fc.drop_at hlt3 (0, 0)
                  have hxx := HPB.out (body.getD d (0, 0)) (by rw [show body.getD d (0, 0) = body[d] by simp [List.getD, List.getElem?_eq_getElem hlt3]]; exact List.getElem_mem hlt3)
                  have hfb := HFB.out
                  rw [hdr, Fc.folB_cons] at hfb
                  generalize body.getD d (0, 0) = x at *
                  obtain ⟨x1, x2⟩ := x
                  simp only at s1 s2 hxx hfb
                  have c1 := bkeep hst.bel s1
                  have c2 := bkeep hst.bel s2
                  have hlt4 : (d : Int) < body.length := by omega
                  have lb := World.block_lt_of_cell? _ _ c1
                  rcases hxx with ⟨rfl, h0, -⟩ | ⟨rfl, h0, h1⟩
                  · rw [if_neg (by decide)] at hfb
                    have HFB2 := Lib.hid hfb
                    have HST := Lib.hid (hst.skip (.cells #[.int .i64 1, .int .i64 x2] 61))
                    clear s1 s2 hst hfb hdr HFB
                    go_wp2
                    go_roundg (body.length - (d + 1))
                    case measure => have := HGK3.out; omega
                    case rel => exact ⟨d + 1, m2, Wd, by omega, rfl, by go_num, rfl, HLB, HFB2, HPN, HST.out⟩
                  · obtain ⟨y, rfl⟩ := Int.eq_ofNat_of_zero_le h0
                    rw [if_pos rfl, Int.toNat_natCast] at hfb
                    have hy : y < Wd.length := by rw [HLB.out.1]; omega
                    have hh : h < Wd.length := by rw [HLB.out.1]; omega
                    have hhn : (h : Int) < nW := by have := HNW.out; omega
                    have hencb : (Enc.two.sl 16).R F w0 [Go.sliced (some ⟨bb, ob, none⟩) (d + 1) body.length cb 2] (body.drop (d + 1)) := by
                      have := Enc.sliced HBODY.out (d + 1) body.length (by omega) (Nat.le_refl _)
                      rw [List.take_length] at this
                      exact this
                    have hbg := Fc.beg_lt (E := E) (b := Wd.getD h 0) (body := body.drop (d + 1)) HXT.out (HLB.out.2 h) (fun x hx h1 => by rcases HPB.out x (List.mem_of_mem_drop hx) with ⟨-, a, b⟩ | ⟨a, -⟩ <;> omega)
                    have hpn := HPN.out.up (i := y) (b := Fc.beg E Xf (Wd.getD h 0) (body.drop (d + 1))) hy (Nat.or_lt_two_pow (HLB.out.2 y) hbg)
                    have hlb : (Fc.up Wd y (Fc.beg E Xf (Wd.getD h 0) (body.drop (d + 1)))).length = N ∧ (∀ i, (Fc.up Wd y (Fc.beg E Xf (Wd.getD h 0) (body.drop (d + 1)))).getD i 0 < 2 ^ 64) := ⟨by rw [Fc.up_len]; exact HLB.out.1, Fc.up_lt HLB.out.2 hbg⟩
                    have HBEG := Lib.hid fun W μ hs => fcBegin_any w0 W gE nE cE gF nF cF E Xf (.slice (some ⟨gW, 0, none⟩) nW cW) vR (.slice (some ⟨gM, 0, none⟩) nM cM) (Go.sliced (some ⟨bb, ob, none⟩) (d + 1) body.length cb 2) (Wd.getD h 0) (body.drop (d + 1)) μ F (by rw [HNE.out, HE.out]) (by rw [HNF.out, HXL.out]) (by rw [HXL.out, HE.out]) (fun i => HXT.out i) (HLB.out.2 h) hencb (fun x hx => by rw [HE.out]; rcases HPB.out x (List.mem_of_mem_drop hx) with ⟨a, b, c⟩ | ⟨a, b, c⟩; exact .inl ⟨a, b, by omega⟩; exact .inr ⟨a, b, c⟩) (hst := hs)
                    have hbc : body.length ≤ cb := by
                      obtain ⟨_, _, _, _, hq, hle, _⟩ := HBODY.out
                      simp only [List.cons.injEq, Value.slice.injEq, and_true, true_and] at hq
                      omega
                    have hs1 : ∀ W, (Instr.slice 110 (.slice (some ⟨bb, ob, none⟩) body.length cb) (some (.int .i64 ((d : Int) + 1))) none none).run Try.prog W = .ok (Go.sliced (some ⟨bb, ob, none⟩) (d + 1) body.length cb 2) W := fun W => by
                      have hsz : (sizeOf (Try.prog.elem 110)).run Try.prog W = .ok 2 W := by kernel_rfl
                      have := run_slice_l (P := Try.prog) W 110 (some ⟨bb, ob, none⟩) body.length cb (by kernel_rfl) .i64 (d + 1) (by omega) (by omega)
                      rw [hsz] at this
                      exact this
                    generalize Go.sliced (some ⟨bb, ob, none⟩) (d + 1) body.length cb 2 = V1 at hs1 HBEG
                    generalize Fc.beg E Xf (Wd.getD h 0) (body.drop (d + 1)) = bg at *
                    have HADD := Lib.hid fun W μ hs => fcAdd_any w0 W gW nW cW Wd y bg μ hy (by rw [HNW.out, HLB.out.1]) (HLB.out.2 y) hbg (hst := hs)
                    generalize decide (Wd.getD y 0 ||| bg ≠ Wd.getD y 0) = M1 at *
                    have HC1 := Lib.hid fun (W : World) (μ : List Asrt) (hs : St w0 W (Fc.aU (.slice (some ⟨gW, 0, none⟩) nW cW) Wd :: μ)) => (show W.cell? ⟨gW, h, none⟩ = some (.int .u64 ((Wd.getD h 0 : Nat) : Int)) from by
                      unfold Fc.aU at hs
                      exact (hs.cellOwn (f := Fc.uV) (fun _ => rfl) h hh 0).1)
                    generalize Wd.getD h 0 = bh at *
                    have HPN2 := Lib.hid hpn; have HLB2 := Lib.hid hlb; have HFB2 := Lib.hid hfb
                    have hst2 := (hst.alloc #[.int .i64 2, .int .i64 y] 61).get6
                    have HST := Lib.hid hst2
                    have hwr : IntKind.i64.wrap (↑d + 1) = ↑d + 1 := IntWalk.i64_in _ (by omega)
                    have hwr0 : (0 : Int) ≤ ↑d + 1 := by omega
                    have hwr1 : ((d : Int) + 1).toNat = d + 1 := by omega
                    have hwr2 : (d : Int) + 1 ≤ body.length := by omega
                    clear s1 s2 hst hst2 hfb hdr HFB hy hh hbg hpn hlb hencb hbc
                    cases M1
                    all_goals
                      go_wp2
                      have HSTD := Lib.hid (HST.out.drew.pick (ρ := Fc.aB (.slice (some ⟨gE, 0, none⟩) nE cE) E :: Fc.aU (.slice (some ⟨gF, 0, none⟩) nF cF) Xf :: Fc.aU (.slice (some ⟨gW, 0, none⟩) nW cW) Wd :: aCel wr.heap.size 61 #[.int .i64 2, .int .i64 y] :: aCel wp.heap.size 112 #[.int .i64 h, .slice (some ⟨bb, ob, none⟩) body.length cb] :: aCel (w.heap.size + 1) 68 #[.slice (some ⟨gE, 0, none⟩) nE cE, .slice (some ⟨gF, 0, none⟩) nF cF, .slice (some ⟨gW, 0, none⟩) nW cW, vR, .slice (some ⟨gM, 0, none⟩) nM cM] :: aCel w.heap.size 24 #[.int .i64 t, .int .i64 n, .slice (some ⟨bp, op, none⟩) l.length cp] :: Fc.aB (.slice (some ⟨gM, 0, none⟩) nM cM) M :: μ) [7, 5, 0, 1, 2, 3, 4, 6] 8 rfl rfl)
                      have r0 := HC1.out _ _ HST.out.drew
                      obtain ⟨y0, y1⟩ := HST.out.at2 1 rfl
                      obtain ⟨p0, p1⟩ := HST.out.at2 2 rfl
                      obtain ⟨x0, x1, x2, x3, x4⟩ := HST.out.at5 3 rfl
                      refine wp_region_held_drew (S := (fun w' => w'.cell? ⟨w.heap.size + 1, 0, none⟩ = some (.slice (some ⟨gE, 0, none⟩) nE cE) ∧ w'.cell? ⟨w.heap.size + 1, 1, none⟩ = some (.slice (some ⟨gF, 0, none⟩) nF cF) ∧ w'.cell? ⟨w.heap.size + 1, 2, none⟩ = some (.slice (some ⟨gW, 0, none⟩) nW cW) ∧ w'.cell? ⟨w.heap.size + 1, 3, none⟩ = some vR ∧ w'.cell? ⟨w.heap.size + 1, 4, none⟩ = some (.slice (some ⟨gM, 0, none⟩) nM cM) ∧ w'.cell? ⟨wp.heap.size, 0, none⟩ = some (.int .i64 h) ∧ w'.cell? ⟨wp.heap.size, 1, none⟩ = some (.slice (some ⟨bb, ob, none⟩) body.length cb) ∧ w'.cell? ⟨wr.heap.size, 1, none⟩ = some (.int .i64 y))) (by kernel_rfl) ?_ (fun hHeld => ?_)
                      · (try dsimp only); (first | exact ⟨x0, x1, x2, x3, x4, p0, p1, y1⟩ | go_keep)
                      refine wpAnyH_take (i := 0) (v := ?_) rfl (by kernel_rfl) (by kernel_rfl) (by kernel_rfl) (fun _ _ _ h => h) (Or.inl ⟨by rfl, ?_⟩) (by assumption) ?_
                      rotate_left; focus (intro w hSw; (try dsimp only at hSw); go_simp; try (with_reducible rfl); done)
                      try simp only [List.getElem_toArray, List.getElem_cons_zero, List.getElem_cons_succ, Act.put, List.setIfInBounds_toArray, List.set_cons_zero, List.set_cons_succ]
                      refine wpAnyH_take (i := 1) (v := ?_) rfl (by kernel_rfl) (by kernel_rfl) (by kernel_rfl) (fun _ _ _ h => h) (Or.inl ⟨by rfl, ?_⟩) (by assumption) ?_
                      rotate_left; focus (intro w hSw; (try dsimp only at hSw); go_simp; try (with_reducible rfl); done)
                      try simp only [List.getElem_toArray, List.getElem_cons_zero, List.getElem_cons_succ, Act.put, List.setIfInBounds_toArray, List.set_cons_zero, List.set_cons_succ]
                      refine wpAnyH_take (i := 2) (v := ?_) rfl (by kernel_rfl) (by kernel_rfl) (by kernel_rfl) (fun _ _ _ h => h) (Or.inl ⟨by rfl, ?_⟩) (by assumption) ?_
                      rotate_left; focus (intro w hSw; (try dsimp only at hSw); go_simp; try (with_reducible rfl); done)
                      try simp only [List.getElem_toArray, List.getElem_cons_zero, List.getElem_cons_succ, Act.put, List.setIfInBounds_toArray, List.set_cons_zero, List.set_cons_succ]
                      refine wpAnyH_take (i := 3) (v := ?_) rfl (by kernel_rfl) (by kernel_rfl) (by kernel_rfl) (fun _ _ _ h => h) (Or.inl ⟨by rfl, ?_⟩) (by assumption) ?_
                      rotate_left; focus (intro w hSw; (try dsimp only at hSw); go_simp; try (with_reducible rfl); done)
                      try simp only [List.getElem_toArray, List.getElem_cons_zero, List.getElem_cons_succ, Act.put, List.setIfInBounds_toArray, List.set_cons_zero, List.set_cons_succ]
                      refine wpAnyH_take (i := 4) (v := ?_) rfl (by kernel_rfl) (by kernel_rfl) (by kernel_rfl) (fun _ _ _ h => h) (Or.inl ⟨by rfl, ?_⟩) (by assumption) ?_
                      rotate_left; focus (intro w hSw; (try dsimp only at hSw); go_simp; try (with_reducible rfl); done)
                      try simp only [List.getElem_toArray, List.getElem_cons_zero, List.getElem_cons_succ, Act.put, List.setIfInBounds_toArray, List.set_cons_zero, List.set_cons_succ]
                      refine wpAnyH_take (i := 5) (v := ?_) rfl (by kernel_rfl) (by kernel_rfl) (by kernel_rfl) (fun _ _ _ h => h) (Or.inl ⟨by rfl, ?_⟩) (by assumption) ?_
                      rotate_left; focus (intro w hSw; (try dsimp only at hSw); go_simp; try (with_reducible rfl); done)
                      try simp only [List.getElem_toArray, List.getElem_cons_zero, List.getElem_cons_succ, Act.put, List.setIfInBounds_toArray, List.set_cons_zero, List.set_cons_succ]
                      refine wpAnyH_take (i := 6) (v := ?_) rfl (by kernel_rfl) (by kernel_rfl) (by kernel_rfl) (fun _ _ _ h => h) (Or.inl ⟨by rfl, ?_⟩) (by assumption) ?_
                      rotate_left; focus (intro w hSw; (try dsimp only at hSw); go_simp; try (with_reducible rfl); done)
                      try simp only [List.getElem_toArray, List.getElem_cons_zero, List.getElem_cons_succ, Act.put, List.setIfInBounds_toArray, List.set_cons_zero, List.set_cons_succ]
                      refine wpAnyH_take (i := 7) (v := ?_) rfl (by kernel_rfl) (by kernel_rfl) (by kernel_rfl) (fun _ _ _ h => h) (Or.inl ⟨by rfl, ?_⟩) (by assumption) ?_
                      rotate_left; focus (intro w hSw; (try dsimp only at hSw); go_simp; try (with_reducible rfl); done)
                      try simp only [List.getElem_toArray, List.getElem_cons_zero, List.getElem_cons_succ, Act.put, List.setIfInBounds_toArray, List.set_cons_zero, List.set_cons_succ]
                      refine wpAnyH_take (i := 8) (v := ?_) rfl (by kernel_rfl) (by kernel_rfl) (by kernel_rfl) (fun _ _ _ h => h) (Or.inl ⟨by rfl, ?_⟩) (by assumption) ?_
                      rotate_left; focus (intro w hSw; (try dsimp only at hSw); go_simp; try (with_reducible rfl); done)
                      try simp only [List.getElem_toArray, List.getElem_cons_zero, List.getElem_cons_succ, Act.put, List.setIfInBounds_toArray, List.set_cons_zero, List.set_cons_succ]
                      refine wpAnyH_take (i := 9) (v := ?_) rfl (by kernel_rfl) (by kernel_rfl) (by kernel_rfl) (fun _ _ _ h => h) (Or.inl ⟨by rfl, ?_⟩) (by assumption) ?_
                      rotate_left; focus (intro w hSw; (try dsimp only at hSw); go_simp; try (with_reducible rfl); done)
                      try simp only [List.getElem_toArray, List.getElem_cons_zero, List.getElem_cons_succ, Act.put, List.setIfInBounds_toArray, List.set_cons_zero, List.set_cons_succ]
                      refine wpAnyH_take (i := 10) (v := ?_) rfl (by kernel_rfl) (by kernel_rfl) (by kernel_rfl) (fun _ _ _ h => h) (Or.inl ⟨by rfl, ?_⟩) (by assumption) ?_
                      rotate_left; focus (intro w hSw; (try dsimp only at hSw); go_simp; try (with_reducible rfl); done)
                      try simp only [List.getElem_toArray, List.getElem_cons_zero, List.getElem_cons_succ, Act.put, List.setIfInBounds_toArray, List.set_cons_zero, List.set_cons_succ]
                      refine wpAnyH_take (i := 11) (v := ?_) rfl (by kernel_rfl) (by kernel_rfl) (by kernel_rfl) (fun _ _ _ h => h) (Or.inl ⟨by rfl, ?_⟩) (by assumption) ?_
                      rotate_left; focus (intro w hSw; (try dsimp only at hSw); go_simp; try (with_reducible rfl); done)
                      try simp only [List.getElem_toArray, List.getElem_cons_zero, List.getElem_cons_succ, Act.put, List.setIfInBounds_toArray, List.set_cons_zero, List.set_cons_succ]
                      refine wpAnyH_take (i := 12) (v := ?_) rfl (by kernel_rfl) (by kernel_rfl) (by kernel_rfl) (fun _ _ _ h => h) (Or.inl ⟨by rfl, ?_⟩) (by assumption) ?_
                      rotate_left; focus (intro w hSw; (try dsimp only at hSw); go_simp; try (with_reducible rfl); done)
                      try simp only [List.getElem_toArray, List.getElem_cons_zero, List.getElem_cons_succ, Act.put, List.setIfInBounds_toArray, List.set_cons_zero, List.set_cons_succ]
                      refine wpAnyH_take (i := 13) (v := ?_) rfl (by kernel_rfl) (by kernel_rfl) (by kernel_rfl) (fun _ _ _ h => h) (Or.inl ⟨by rfl, ?_⟩) (by assumption) ?_
                      rotate_left; focus (intro w hSw; (try dsimp only at hSw); go_simp; try (with_reducible rfl); done)
                      try simp only [List.getElem_toArray, List.getElem_cons_zero, List.getElem_cons_succ, Act.put, List.setIfInBounds_toArray, List.set_cons_zero, List.set_cons_succ]
                      refine wpAnyH_take (i := 14) (v := ?_) rfl (by kernel_rfl) (by kernel_rfl) (by kernel_rfl) (fun _ _ _ h => h) (Or.inl ⟨by rfl, ?_⟩) (by assumption) ?_
                      rotate_left; focus (intro w hSw; (try dsimp only at hSw); go_simp; try (with_reducible rfl); done)
                      try simp only [List.getElem_toArray, List.getElem_cons_zero, List.getElem_cons_succ, Act.put, List.setIfInBounds_toArray, List.set_cons_zero, List.set_cons_succ]
                      refine wpAnyH_ready (rs := [15]) (by kernel_rfl) (by simp) ?_
                      refine AllReadyH.cons rfl (fun K hK => ?_) AllReadyH.nil
                      go_simp
                      refine hK.out _ _ ?_ (fun hHeld => ?_)
                      · (try dsimp only); (first | exact ⟨x0, x1, x2, x3, x4, p0, p1, y1⟩ | go_keep)
                      clear hK K
                      try simp only [List.getElem_toArray, List.getElem_cons_zero, List.getElem_cons_succ, Act.put, List.setIfInBounds_toArray, List.set_cons_zero, List.set_cons_succ]
                      refine wpAnyH_ready (rs := [16]) (by kernel_rfl) (by simp) ?_
                      refine AllReadyH.cons rfl (fun K hK => ?_) AllReadyH.nil
                      go_simp
                      (first | (go_at_call 121; refine (HBEG.out _ _ HSTD.out).mono ?_; rintro e w8 ⟨rfl, hst8⟩; have HSTD := Lib.hid hst8.get3; obtain ⟨x0, x1, x2, x3, x4⟩ := hst8.at5 5 rfl; obtain ⟨p0, p1⟩ := hst8.at2 4 rfl; obtain ⟨y0, y1⟩ := hst8.at2 3 rfl; clear hst8) | (go_at_call 120; refine (HADD.out _ _ HSTD.out).mono ?_; rintro e w9 ⟨rfl, hst9⟩; have HSTD := Lib.hid hst9; obtain ⟨x0, x1, x2, x3, x4⟩ := hst9.at5 5 rfl; obtain ⟨p0, p1⟩ := hst9.at2 4 rfl; obtain ⟨y0, y1⟩ := hst9.at2 3 rfl; clear hst9))
                      refine hK.out _ _ ?_ (fun hHeld => ?_)
                      · (try dsimp only); (first | exact ⟨x0, x1, x2, x3, x4, p0, p1, y1⟩ | go_keep)
                      clear hK K
                      try simp only [List.getElem_toArray, List.getElem_cons_zero, List.getElem_cons_succ, Act.put, List.setIfInBounds_toArray, List.set_cons_zero, List.set_cons_succ]
                      refine wpAnyH_ready (rs := [17]) (by kernel_rfl) (by simp) ?_
                      refine AllReadyH.cons rfl (fun K hK => ?_) AllReadyH.nil
                      go_simp
                      (first | (go_at_call 121; refine (HBEG.out _ _ HSTD.out).mono ?_; rintro e w8 ⟨rfl, hst8⟩; have HSTD := Lib.hid hst8.get3; obtain ⟨x0, x1, x2, x3, x4⟩ := hst8.at5 5 rfl; obtain ⟨p0, p1⟩ := hst8.at2 4 rfl; obtain ⟨y0, y1⟩ := hst8.at2 3 rfl; clear hst8) | (go_at_call 120; refine (HADD.out _ _ HSTD.out).mono ?_; rintro e w9 ⟨rfl, hst9⟩; have HSTD := Lib.hid hst9; obtain ⟨x0, x1, x2, x3, x4⟩ := hst9.at5 5 rfl; obtain ⟨p0, p1⟩ := hst9.at2 4 rfl; obtain ⟨y0, y1⟩ := hst9.at2 3 rfl; clear hst9))
                      refine hK.out _ _ ?_ (fun hHeld => ?_)
                      · (try dsimp only); (first | exact ⟨x0, x1, x2, x3, x4, p0, p1, y1⟩ | go_keep)
                      clear hK K
                      try simp only [List.getElem_toArray, List.getElem_cons_zero, List.getElem_cons_succ, Act.put, List.setIfInBounds_toArray, List.set_cons_zero, List.set_cons_succ]
                      refine wpAnyH_take (i := 18) (v := ?_) rfl (by kernel_rfl) (by kernel_rfl) (by kernel_rfl) (fun _ _ _ h => h) (Or.inl ⟨by rfl, ?_⟩) (by assumption) ?_
                      rotate_left; focus (intro w hSw; (try dsimp only at hSw); go_simp; try (with_reducible rfl); done)
                      try simp only [List.getElem_toArray, List.getElem_cons_zero, List.getElem_cons_succ, Act.put, List.setIfInBounds_toArray, List.set_cons_zero, List.set_cons_succ]
                      first | (refine wpAnyH_take (i := 19) (v := undef) rfl (by kernel_rfl) (by kernel_rfl) (by kernel_rfl) (fun _ _ _ h => h) (Or.inr ⟨by rfl, rfl⟩) (by assumption) ?_) | (refine wpAnyH_take (i := 19) (v := ?_) rfl (by kernel_rfl) (by kernel_rfl) (by kernel_rfl) (fun _ _ _ h => h) (Or.inl ⟨by rfl, ?_⟩) (by assumption) ?_; rotate_left; focus (intro w hSw; (try dsimp only at hSw); go_simp; try (with_reducible rfl); done))
                      try simp only [List.getElem_toArray, List.getElem_cons_zero, List.getElem_cons_succ, Act.put, List.setIfInBounds_toArray, List.set_cons_zero, List.set_cons_succ]
                      refine wpAnyH_take (i := 20) (v := ?_) rfl (by kernel_rfl) (by kernel_rfl) (by kernel_rfl) (fun _ _ _ h => h) (Or.inl ⟨by rfl, ?_⟩) (by assumption) ?_
                      rotate_left; focus (intro w hSw; (try dsimp only at hSw); go_simp; try (with_reducible rfl); done)
                      try simp only [List.getElem_toArray, List.getElem_cons_zero, List.getElem_cons_succ, Act.put, List.setIfInBounds_toArray, List.set_cons_zero, List.set_cons_succ]
                      refine wpAnyH_take (i := 21) (v := ?_) rfl (by kernel_rfl) (by kernel_rfl) (by kernel_rfl) (fun _ _ _ h => h) (Or.inl ⟨by rfl, ?_⟩) (by assumption) ?_
                      rotate_left; focus (intro w hSw; (try dsimp only at hSw); go_simp; try (with_reducible rfl); done)
                      try simp only [List.getElem_toArray, List.getElem_cons_zero, List.getElem_cons_succ, Act.put, List.setIfInBounds_toArray, List.set_cons_zero, List.set_cons_succ]
                      refine wpAnyH_done (by kernel_rfl) ?_ _
                      clear x0 x1 x2 x3 x4 p0 p1 y0 y1 HBEG HADD HST r0 hwr hwr1 hs1
                      go_wp2
                      go_roundg (body.length - (d + 1))
                      case measure => have := HGK3.out; omega
                      case rel => exact ⟨d + 1, _, _, by omega, rfl, by go_num, rfl, HLB2, HFB2, HPN2, HSTD.out.pick [4, 5, 6, 2, 0, 7, 1] 8 rfl rfl⟩
                · obtain rfl : d = body.length := by omega
                  have hfb := HFB.out
                  rw [List.drop_length] at hfb
                  replace hfb : Wd = Fc.folB E Xf h body Yk := hfb
                  rw [← HSF.out] at hfb
                  have HW := Lib.hid hfb
                  have HST := Lib.hid hst
                  clear hst hfb
                  go_wp2
                  go_roundg (l.length - (k + 1))
                  case measure => have := HGK2.out; omega
                  case rel => exact ⟨k + 1, m2, by omega, rfl, by go_num, rfl, by rw [← HW.out]; exact HLB, by rw [← HW.out]; exact HPN, by rw [← HW.out]; exact HST.out.drop⟩
            · obtain rfl : k = l.length := by omega
              rw [List.take_length] at hst HPN
              have HST := Lib.hid hst
              clear hst
              go_wp2
              go_roundg (Fc.room (2 ^ 64) (Fc.fol E Xf l Yq) + (if m = true then 1 else 0))
              case measure =>
                have h1 := HGK.out
                cases m
                · have := HPN.out.1 rfl; rw [this, h1]; simp
                · have h2 := HPN.out.2 rfl; rw [h1]; simp only [if_true]; exact Nat.add_lt_add_right h2 1
              case rel => exact ⟨q + 1, m, rfl, by rw [HIT.out], Lib.hid (fun hm => by rw [HIT.out]; have := HPN.out.1 hm; rw [this, this]), by rw [HIT.out]; exact HST.out⟩
    · clear HFX
      have hlX : (Fc.iter (Fc.rdF E M l) j X).length = N := by rw [Fc.iter_len (fun W => Fc.rdF_len)]; exact HX.out
      have hXlt : ∀ i, (Fc.iter (Fc.rdF E M l) j X).getD i 0 < 2 ^ 64 := Fc.iter_lt (fun W => ∀ i, W.getD i 0 < 2 ^ 64) (fun W hW => Fc.rdF_lt (fun p hp => Fc.okP_lt (HOK.out p hp)) hW) HXB.out
      have hit : Fc.iter (Fc.rdF E M l) (j + 1) X = Fc.rdF E M l (Fc.iter (Fc.rdF E M l) j X) := by rw [Fc.iter_add]; rfl
      have HLX := Lib.hid hlX; have HXLT := Lib.hid hXlt; have HIT := Lib.hid hit
      generalize Fc.iter (Fc.rdF E M l) j X = Xj at *
      obtain ⟨g0, g1, g2⟩ := HST.out.at3 1 rfl
      clear hlX hXlt hit
      go_wp2
      clear g0 g1 g2
      go_loopg [4, 16] l.length (fun gk2 mv i wr2 => ∃ (k : Nat) (m : Bool), k ≤ l.length ∧ gk2 = l.length - k ∧ i = .int .i64 k ∧ mv = .bool m ∧ Hid ((Fc.rdF E M (l.take k) Xj).length = N ∧ (∀ i, (Fc.rdF E M (l.take k) Xj).getD i 0 < 2 ^ 64)) ∧ Hid (Fc.ProgN (2 ^ 64) Xj (Fc.rdF E M (l.take k) Xj) m) ∧ St w0 wr2 (aCel (w.heap.size + 1) 68 #[.slice (some ⟨gE, 0, none⟩) nE cE, .slice (some ⟨gF, 0, none⟩) nF cF, .slice (some ⟨gW, 0, none⟩) nW cW, vR, .slice (some ⟨gM, 0, none⟩) nM cM] :: aCel w.heap.size 24 #[.int .i64 t, .int .i64 n, .slice ap l.length cp] :: Fc.aU (.slice (some ⟨gF, 0, none⟩) nF cF) (Fc.rdF E M (l.take k) Xj) :: Fc.aU (.slice (some ⟨gW, 0, none⟩) nW cW) Y :: Fc.aB (.slice (some ⟨gM, 0, none⟩) nM cM) M :: Fc.aB (.slice (some ⟨gE, 0, none⟩) nE cE) E :: μ))
      case atStart => exact ⟨0, false, by omega, by omega, rfl, rfl, Lib.hid ⟨HLX.out, HXLT.out⟩, Lib.hid (Fc.ProgN.refl _ _), HST.out⟩
      case round =>
        clear HST
        obtain ⟨k, m, hk, hgk2, rfl, rfl, HLB, HPN, hst⟩ := hrel
        have HGK2 := Lib.hid hgk2
        clear hgk2
        by_cases hlt : k < l.length
        · obtain ⟨rfl, _, _⟩ := P3.out (by omega)
          obtain ⟨vb, s1, s2, hbody, -⟩ := P4.out k hlt
          have hokp := HOK.out (l.getD k (0, [])) (by rw [show l.getD k (0, []) = l[k] by simp [List.getD, List.getElem?_eq_getElem hlt]]; exact List.getElem_mem hlt)
          have hsF := Fc.rdF_step (E := E) (M := M) (X := Xj) hlt
          generalize l.getD k (0, []) = p at *
          obtain ⟨h0, body⟩ := p
          simp only at s1 s2 hbody hsF
          have hpb := hokp.2.2
          obtain ⟨hp0, hp1, -⟩ := hokp
          simp only at hp0 hp1 hpb
          obtain ⟨h, rfl⟩ := Int.eq_ofNat_of_zero_le hp0
          rw [Int.toNat_natCast] at hsF
          have HSF := Lib.hid hsF; have HBODY := Lib.hid hbody; have HPB := Lib.hid hpb
          generalize Fc.rdF E M (l.take k) Xj = Xk at *
          have hlt2 : (k : Int) < l.length := by omega
          have s1 := bkeep hst.bel s1
          have s2 := bkeep hst.bel s2
          obtain ⟨ab, bb, ob, cb, rfl, hbl, b3, b4⟩ := slTwo hbody
          have HST := Lib.hid (hst.alloc #[.int .i64 h, .slice ab body.length cb] 112)
          obtain ⟨B, hB⟩ : ∃ B, Fc.all M true body = B := ⟨_, rfl⟩
          have HB := Lib.hid hB
          have HALL := Lib.hid fun W μ hs => fcAll_any w0 W gM nM cM M true (.slice ab body.length cb) body μ F (by rw [HNM.out, HM.out]) hbody (fun x hx => by rw [HM.out]; rcases hpb x hx with ⟨a, b, c⟩ | ⟨a, b, c⟩; exact .inl ⟨a, b⟩; exact .inr ⟨a, b, c⟩) (hst := hs)
          rw [hB] at HALL
          clear hst hsF hbody hpb hp0 hbl b3 b4 hB
          obtain ⟨x0, x1, x2, x3, x4⟩ := HST.out.at5 1 rfl
          obtain ⟨p0, p1⟩ := HST.out.at2 0 rfl
          cases B
          all_goals
            go_wp2_with (go_at_call 119; refine (HALL.out _ _ HST.out.get6).mono ?_; rintro e w8 ⟨rfl, hst8⟩; have HST := Lib.hid hst8; clear hst8)
          · have hs := HSF.out
            rw [HB.out, if_neg (by decide)] at hs
            go_roundg (l.length - (k + 1))
            case measure => have := HGK2.out; omega
            case rel => exact ⟨k + 1, m, by omega, rfl, by go_num, rfl, by rw [hs]; exact HLB, by rw [hs]; exact HPN, by rw [hs]; exact HST.out.get2.drop.get5.get5.get5.get5⟩
          · have hs := HSF.out
            rw [HB.out, if_pos rfl] at hs
            have HS := Lib.hid hs
            have hbl := Fc.beg_lt (E := E) (b := 0) HLB.out.2 (by decide) (fun x hx h1 => by rcases HPB.out x hx with ⟨-, a, b⟩ | ⟨a, -⟩ <;> omega)
            have hpn := HPN.out.up (i := h) (b := Fc.beg E Xk 0 body) (by rw [HLB.out.1]; omega) (Nat.or_lt_two_pow (HLB.out.2 h) hbl)
            have hlb : (Fc.up Xk h (Fc.beg E Xk 0 body)).length = N ∧ (∀ i, (Fc.up Xk h (Fc.beg E Xk 0 body)).getD i 0 < 2 ^ 64) := ⟨by rw [Fc.up_len]; exact HLB.out.1, Fc.up_lt HLB.out.2 hbl⟩
            have HBEG := Lib.hid fun W μ hs => fcBegin_any w0 W gE nE cE gF nF cF E Xk (.slice (some ⟨gW, 0, none⟩) nW cW) vR (.slice (some ⟨gM, 0, none⟩) nM cM) (.slice ab body.length cb) 0 body μ F (by rw [HNE.out, HE.out]) (by rw [HNF.out, HLB.out.1]) (by rw [HLB.out.1, HE.out]) (fun i => HLB.out.2 i) (by decide) HBODY.out (fun x hx => by rw [HE.out]; rcases HPB.out x hx with ⟨a, b, c⟩ | ⟨a, b, c⟩; exact .inl ⟨a, b, by omega⟩; exact .inr ⟨a, b, c⟩) (hst := hs)
            generalize Fc.beg E Xk 0 body = bg at *
            have HADD := Lib.hid fun W μ hs => fcAdd_any w0 W gF nF cF Xk h bg μ (by rw [HLB.out.1]; omega) (by rw [HNF.out, HLB.out.1]) (HLB.out.2 h) hbl (hst := hs)
            generalize decide (Xk.getD h 0 ||| bg ≠ Xk.getD h 0) = M1 at *
            have HPN2 := Lib.hid hpn; have HLB2 := Lib.hid hlb
            have HST := Lib.hid HST.out.get5.get7
            clear hs hbl hpn hlb x0 x1 x2 x3 x4 p0 p1
            cases M1
            all_goals
              have HSTD := Lib.hid HST.out.drew
              obtain ⟨x0, x1, x2, x3, x4⟩ := HST.out.at5 4 rfl
              obtain ⟨p0, p1⟩ := HST.out.at2 3 rfl
              refine wp_region_held_drew (S := (fun w' => w'.cell? ⟨w.heap.size + 1, 0, none⟩ = some (.slice (some ⟨gE, 0, none⟩) nE cE) ∧ w'.cell? ⟨w.heap.size + 1, 1, none⟩ = some (.slice (some ⟨gF, 0, none⟩) nF cF) ∧ w'.cell? ⟨w.heap.size + 1, 2, none⟩ = some (.slice (some ⟨gW, 0, none⟩) nW cW) ∧ w'.cell? ⟨w.heap.size + 1, 3, none⟩ = some vR ∧ w'.cell? ⟨w.heap.size + 1, 4, none⟩ = some (.slice (some ⟨gM, 0, none⟩) nM cM) ∧ w'.cell? ⟨wr.heap.size, 0, none⟩ = some (.int .i64 h) ∧ w'.cell? ⟨wr.heap.size, 1, none⟩ = some (.slice ab body.length cb))) (by kernel_rfl) ?_ (fun hHeld => ?_)
              · (try dsimp only); (first | exact ⟨x0, x1, x2, x3, x4, p0, p1⟩ | go_keep)
              refine wpAnyH_take (i := 0) (v := ?_) rfl (by kernel_rfl) (by kernel_rfl) (by kernel_rfl) (fun _ _ _ h => h) (Or.inl ⟨by rfl, ?_⟩) (by assumption) ?_
              rotate_left; focus (intro w hSw; (try dsimp only at hSw); go_simp; try (with_reducible rfl); done)
              try simp only [List.getElem_toArray, List.getElem_cons_zero, List.getElem_cons_succ, Act.put, List.setIfInBounds_toArray, List.set_cons_zero, List.set_cons_succ]
              refine wpAnyH_take (i := 1) (v := ?_) rfl (by kernel_rfl) (by kernel_rfl) (by kernel_rfl) (fun _ _ _ h => h) (Or.inl ⟨by rfl, ?_⟩) (by assumption) ?_
              rotate_left; focus (intro w hSw; (try dsimp only at hSw); go_simp; try (with_reducible rfl); done)
              try simp only [List.getElem_toArray, List.getElem_cons_zero, List.getElem_cons_succ, Act.put, List.setIfInBounds_toArray, List.set_cons_zero, List.set_cons_succ]
              refine wpAnyH_take (i := 2) (v := ?_) rfl (by kernel_rfl) (by kernel_rfl) (by kernel_rfl) (fun _ _ _ h => h) (Or.inl ⟨by rfl, ?_⟩) (by assumption) ?_
              rotate_left; focus (intro w hSw; (try dsimp only at hSw); go_simp; try (with_reducible rfl); done)
              try simp only [List.getElem_toArray, List.getElem_cons_zero, List.getElem_cons_succ, Act.put, List.setIfInBounds_toArray, List.set_cons_zero, List.set_cons_succ]
              refine wpAnyH_take (i := 3) (v := ?_) rfl (by kernel_rfl) (by kernel_rfl) (by kernel_rfl) (fun _ _ _ h => h) (Or.inl ⟨by rfl, ?_⟩) (by assumption) ?_
              rotate_left; focus (intro w hSw; (try dsimp only at hSw); go_simp; try (with_reducible rfl); done)
              try simp only [List.getElem_toArray, List.getElem_cons_zero, List.getElem_cons_succ, Act.put, List.setIfInBounds_toArray, List.set_cons_zero, List.set_cons_succ]
              refine wpAnyH_take (i := 4) (v := ?_) rfl (by kernel_rfl) (by kernel_rfl) (by kernel_rfl) (fun _ _ _ h => h) (Or.inl ⟨by rfl, ?_⟩) (by assumption) ?_
              rotate_left; focus (intro w hSw; (try dsimp only at hSw); go_simp; try (with_reducible rfl); done)
              try simp only [List.getElem_toArray, List.getElem_cons_zero, List.getElem_cons_succ, Act.put, List.setIfInBounds_toArray, List.set_cons_zero, List.set_cons_succ]
              refine wpAnyH_take (i := 5) (v := ?_) rfl (by kernel_rfl) (by kernel_rfl) (by kernel_rfl) (fun _ _ _ h => h) (Or.inl ⟨by rfl, ?_⟩) (by assumption) ?_
              rotate_left; focus (intro w hSw; (try dsimp only at hSw); go_simp; try (with_reducible rfl); done)
              try simp only [List.getElem_toArray, List.getElem_cons_zero, List.getElem_cons_succ, Act.put, List.setIfInBounds_toArray, List.set_cons_zero, List.set_cons_succ]
              refine wpAnyH_take (i := 6) (v := ?_) rfl (by kernel_rfl) (by kernel_rfl) (by kernel_rfl) (fun _ _ _ h => h) (Or.inl ⟨by rfl, ?_⟩) (by assumption) ?_
              rotate_left; focus (intro w hSw; (try dsimp only at hSw); go_simp; try (with_reducible rfl); done)
              try simp only [List.getElem_toArray, List.getElem_cons_zero, List.getElem_cons_succ, Act.put, List.setIfInBounds_toArray, List.set_cons_zero, List.set_cons_succ]
              refine wpAnyH_ready (rs := [7]) (by kernel_rfl) (by simp) ?_
              refine AllReadyH.cons rfl (fun K hK => ?_) AllReadyH.nil
              go_simp
              (first | (go_at_call 121; refine (HBEG.out _ _ HSTD.out).mono ?_; rintro e w8 ⟨rfl, hst8⟩; have HSTD := Lib.hid hst8.get2; obtain ⟨x0, x1, x2, x3, x4⟩ := hst8.at5 4 rfl; obtain ⟨p0, p1⟩ := hst8.at2 3 rfl; clear hst8) | (go_at_call 120; refine (HADD.out _ _ HSTD.out).mono ?_; rintro e w9 ⟨rfl, hst9⟩; have HSTD := Lib.hid hst9; obtain ⟨x0, x1, x2, x3, x4⟩ := hst9.at5 4 rfl; obtain ⟨p0, p1⟩ := hst9.at2 3 rfl; clear hst9))
              refine hK.out _ _ ?_ (fun hHeld => ?_)
              · (try dsimp only); (first | exact ⟨x0, x1, x2, x3, x4, p0, p1⟩ | go_keep)
              clear hK K
              try simp only [List.getElem_toArray, List.getElem_cons_zero, List.getElem_cons_succ, Act.put, List.setIfInBounds_toArray, List.set_cons_zero, List.set_cons_succ]
              refine wpAnyH_ready (rs := [8]) (by kernel_rfl) (by simp) ?_
              refine AllReadyH.cons rfl (fun K hK => ?_) AllReadyH.nil
              go_simp
              (first | (go_at_call 121; refine (HBEG.out _ _ HSTD.out).mono ?_; rintro e w8 ⟨rfl, hst8⟩; have HSTD := Lib.hid hst8.get2; obtain ⟨x0, x1, x2, x3, x4⟩ := hst8.at5 4 rfl; obtain ⟨p0, p1⟩ := hst8.at2 3 rfl; clear hst8) | (go_at_call 120; refine (HADD.out _ _ HSTD.out).mono ?_; rintro e w9 ⟨rfl, hst9⟩; have HSTD := Lib.hid hst9; obtain ⟨x0, x1, x2, x3, x4⟩ := hst9.at5 4 rfl; obtain ⟨p0, p1⟩ := hst9.at2 3 rfl; clear hst9))
              refine hK.out _ _ ?_ (fun hHeld => ?_)
              · (try dsimp only); (first | exact ⟨x0, x1, x2, x3, x4, p0, p1⟩ | go_keep)
              clear hK K
              try simp only [List.getElem_toArray, List.getElem_cons_zero, List.getElem_cons_succ, Act.put, List.setIfInBounds_toArray, List.set_cons_zero, List.set_cons_succ]
              refine wpAnyH_take (i := 9) (v := ?_) rfl (by kernel_rfl) (by kernel_rfl) (by kernel_rfl) (fun _ _ _ h => h) (Or.inl ⟨by rfl, ?_⟩) (by assumption) ?_
              rotate_left; focus (intro w hSw; (try dsimp only at hSw); go_simp; try (with_reducible rfl); done)
              try simp only [List.getElem_toArray, List.getElem_cons_zero, List.getElem_cons_succ, Act.put, List.setIfInBounds_toArray, List.set_cons_zero, List.set_cons_succ]
              first | (refine wpAnyH_take (i := 10) (v := undef) rfl (by kernel_rfl) (by kernel_rfl) (by kernel_rfl) (fun _ _ _ h => h) (Or.inr ⟨by rfl, rfl⟩) (by assumption) ?_) | (refine wpAnyH_take (i := 10) (v := ?_) rfl (by kernel_rfl) (by kernel_rfl) (by kernel_rfl) (fun _ _ _ h => h) (Or.inl ⟨by rfl, ?_⟩) (by assumption) ?_; rotate_left; focus (intro w hSw; (try dsimp only at hSw); go_simp; try (with_reducible rfl); done))
              try simp only [List.getElem_toArray, List.getElem_cons_zero, List.getElem_cons_succ, Act.put, List.setIfInBounds_toArray, List.set_cons_zero, List.set_cons_succ]
              refine wpAnyH_take (i := 11) (v := ?_) rfl (by kernel_rfl) (by kernel_rfl) (by kernel_rfl) (fun _ _ _ h => h) (Or.inl ⟨by rfl, ?_⟩) (by assumption) ?_
              rotate_left; focus (intro w hSw; (try dsimp only at hSw); go_simp; try (with_reducible rfl); done)
              try simp only [List.getElem_toArray, List.getElem_cons_zero, List.getElem_cons_succ, Act.put, List.setIfInBounds_toArray, List.set_cons_zero, List.set_cons_succ]
              refine wpAnyH_take (i := 12) (v := ?_) rfl (by kernel_rfl) (by kernel_rfl) (by kernel_rfl) (fun _ _ _ h => h) (Or.inl ⟨by rfl, ?_⟩) (by assumption) ?_
              rotate_left; focus (intro w hSw; (try dsimp only at hSw); go_simp; try (with_reducible rfl); done)
              try simp only [List.getElem_toArray, List.getElem_cons_zero, List.getElem_cons_succ, Act.put, List.setIfInBounds_toArray, List.set_cons_zero, List.set_cons_succ]
              refine wpAnyH_done (by kernel_rfl) ?_ _
              clear x0 x1 x2 x3 x4 p0 p1 HBEG HADD HST
              go_wp2
              go_roundg (l.length - (k + 1))
              case measure => have := HGK2.out; omega
              case rel => exact ⟨k + 1, _, by omega, rfl, by go_num, rfl, by rw [HS.out]; exact HLB2, by rw [HS.out]; exact HPN2, by rw [HS.out]; exact HSTD.out.get4.drop.get3.get6.get3.get6.get6⟩
        · obtain rfl : k = l.length := by omega
          rw [List.take_length] at hst HPN
          have HST := Lib.hid hst
          clear hst
          go_wp2
          go_roundg (Fc.room (2 ^ 64) (Fc.rdF E M l Xj) + (if m = true then 1 else 0))
          case measure =>
            have h1 := HGK.out
            cases m
            · have := HPN.out.1 rfl; rw [this, h1]; simp
            · have h2 := HPN.out.2 rfl; rw [h1]; simp only [if_true]; exact Nat.add_lt_add_right h2 1
          case rel => exact ⟨j + 1, m, rfl, by rw [HIT.out], Lib.hid (fun hm => by rw [HIT.out]; have := HPN.out.1 hm; rw [this, this]), by rw [HIT.out]; exact HST.out⟩
end Go.Proofs.Ytkhjncbjdldpbaa

/-
  What is wrong with a grammar: cfg.Check and Cfg of the reference.
-/
namespace Go.Proofs.Ytkhjncbjdldpbaa
set_option linter.unusedVariables false
open Go.ChangeShapes Go.WideShapes Go.ChangeAt Go.RowKit

namespace Gr
variable {t n : Int} {l : List (Int × List (Int × Int))}
def errP (t n : Int) : List (Int × List (Int × Int)) → Int
  | [] => 0
  | p :: r => if 8 < p.2.length then 2 else if p.1 < 0 ∨ n ≤ p.1 ∨ p.2.any (fun x => !right t n x) = true then 1 else errP t n r
def err (t n : Int) (l : List (Int × List (Int × Int))) : Int := if t < 0 ∨ 30 < t ∨ n < 1 ∨ 20 < n then 1 else if 40 < l.length then 2 else errP t n l
theorem err_arg (h : t < 0 ∨ 30 < t ∨ n < 1 ∨ 20 < n) : err t n l = 1 := by rw [err, if_pos h]
theorem err_large (h : ¬ (t < 0 ∨ 30 < t ∨ n < 1 ∨ 20 < n)) (h1 : 40 < l.length) : err t n l = 2 := by rw [err, if_neg h, if_pos h1]
theorem err_go (h : ¬ (t < 0 ∨ 30 < t ∨ n < 1 ∨ 20 < n)) (h1 : ¬ 40 < l.length) : err t n l = errP t n (l.drop 0) := by rw [err, if_neg h, if_neg h1, List.drop_zero]
theorem drop_at {α : Type} (l : List α) (d : α) (k : Nat) (h : k < l.length) : l.drop k = l.getD k d :: l.drop (k + 1) := by
  rw [List.drop_eq_getElem_cons h]; simp [List.getD, List.getElem?_eq_getElem h]
theorem errP_end : errP t n (l.drop l.length) = 0 := by rw [List.drop_length]; rfl
theorem errP_wide {k : Nat} (h : k < l.length) (h1 : 8 < (l.getD k (0, [])).2.length) : errP t n (l.drop k) = 2 := by rw [drop_at l (0, []) k h, errP, if_pos h1]
theorem errP_bad {k : Nat} (h : k < l.length) (h1 : ¬ 8 < (l.getD k (0, [])).2.length) (h2 : (l.getD k (0, [])).1 < 0 ∨ n ≤ (l.getD k (0, [])).1 ∨ (l.getD k (0, [])).2.any (fun x => !right t n x) = true) : errP t n (l.drop k) = 1 := by
  rw [drop_at l (0, []) k h, errP, if_neg h1, if_pos h2]
theorem errP_next {k : Nat} (h : k < l.length) (h1 : ¬ 8 < (l.getD k (0, [])).2.length) (h2 : ¬ ((l.getD k (0, [])).1 < 0 ∨ n ≤ (l.getD k (0, [])).1 ∨ (l.getD k (0, [])).2.any (fun x => !right t n x) = true)) : errP t n (l.drop k) = errP t n (l.drop (k + 1)) := by
  rw [drop_at l (0, []) k h, errP, if_neg h1, if_neg h2]
theorem errP_in (t n : Int) (l) : 0 ≤ errP t n l ∧ errP t n l ≤ 2 := by
  induction l with
  | nil => simp [errP]
  | cons p r ih => rw [errP]; split; · simp
                   split; · simp
                   exact ih
theorem err_in (t n : Int) (l) : 0 ≤ err t n l ∧ err t n l ≤ 2 := by
  rw [err]; split; · simp
  split; · simp
  exact errP_in t n l
theorem errP_zero {t n : Int} {l} (h : errP t n l = 0) : ∀ p ∈ l, p.2.length ≤ 8 ∧ 0 ≤ p.1 ∧ p.1 < n ∧ ∀ x ∈ p.2, right t n x = true := by
  induction l with
  | nil => intro p hp; cases hp
  | cons q r ih =>
    rw [errP] at h
    split at h
    · cases h
    split at h
    · cases h
    rename_i h1 h2
    intro p hp
    rcases List.mem_cons.1 hp with rfl | hp
    · refine ⟨by omega, by omega, by omega, fun x hx => ?_⟩
      have h3 : ¬ p.2.any (fun x => !right t n x) = true := fun e => h2 (.inr (.inr e))
      have h3' : p.2.any (fun x => !right t n x) = false := by
        cases hh : p.2.any (fun x => !right t n x)
        · rfl
        · exact absurd hh h3
      have h4 := List.any_eq_false.1 h3' x hx
      cases hr : right t n x
      · rw [hr] at h4; simp at h4
      · rfl
    · exact ih h p hp
/-- A right grammar. -/
theorem err_zero {t n : Int} {l} (h : err t n l = 0) : 0 ≤ t ∧ t ≤ 30 ∧ 1 ≤ n ∧ n ≤ 20 ∧ l.length ≤ 40 ∧ ∀ p ∈ l, p.2.length ≤ 8 ∧ 0 ≤ p.1 ∧ p.1 < n ∧ ∀ x ∈ p.2, right t n x = true := by
  rw [err] at h
  split at h
  · cases h
  split at h
  · cases h
  rename_i h1 h2
  exact ⟨by omega, by omega, by omega, by omega, by omega, errP_zero h⟩
end Gr
attribute [irreducible] Gr.err Gr.errP

set_option maxRecDepth 100000 in
set_option maxHeartbeats 4000000 in
theorem cfgCheck_any (t n : Int) (vp : Value) (l : List (Int × List (Int × Int))) (w : World) (F : Nat → Prop) (hF : ∀ b, F b → b < w.heap.size) (h : Enc.prods.R F w [vp] l) :
    Calls Try.prog 84 #[.agg #[.int .i64 t, .int .i64 n, vp]] w fun e w' => e = .returned (.int .i64 (Gr.err t n l)) ∧ Below w.heap.size w w' := by
  obtain ⟨ao, b, off, cap, rfl, hl, c2, c3⟩ := slProds h
  have C2 := Lib.hid c2; have C3 := Lib.hid c3
  clear c2 c3 h hl
  by_cases h1 : t < 0
  · have HE := Lib.hid (Gr.err_arg (t := t) (n := n) (l := l) (by omega))
    go_enter Try.func84, Try.ntmps84
    go_wp2
    go_ret
    exact ⟨by rw [HE.out]; rfl, (Below.refl _ _).alloc (Nat.le_refl _) _⟩
  by_cases h2 : 30 < t
  · have HE := Lib.hid (Gr.err_arg (t := t) (n := n) (l := l) (by omega))
    go_enter Try.func84, Try.ntmps84
    go_wp2
    go_ret
    exact ⟨by rw [HE.out]; rfl, (Below.refl _ _).alloc (Nat.le_refl _) _⟩
  by_cases h3 : n < 1
  · have HE := Lib.hid (Gr.err_arg (t := t) (n := n) (l := l) (by omega))
    go_enter Try.func84, Try.ntmps84
    go_wp2
    go_ret
    exact ⟨by rw [HE.out]; rfl, (Below.refl _ _).alloc (Nat.le_refl _) _⟩
  by_cases h4 : 20 < n
  · have HE := Lib.hid (Gr.err_arg (t := t) (n := n) (l := l) (by omega))
    go_enter Try.func84, Try.ntmps84
    go_wp2
    go_ret
    exact ⟨by rw [HE.out]; rfl, (Below.refl _ _).alloc (Nat.le_refl _) _⟩
  by_cases h5 : 40 < l.length
  · have HE := Lib.hid (Gr.err_large (t := t) (n := n) (l := l) (by omega) h5)
    go_enter Try.func84, Try.ntmps84
    go_wp2
    go_ret
    exact ⟨by rw [HE.out]; rfl, (Below.refl _ _).alloc (Nat.le_refl _) _⟩
  have HE := Lib.hid (Gr.err_go (t := t) (n := n) (l := l) (by omega) h5)
  go_enter Try.func84, Try.ntmps84
  go_wp2
  go_loopw [4, 32] (fun _ i wr => ∃ k : Nat, k ≤ l.length ∧ i = .int .i64 k ∧ Below w.heap.size w wr ∧ Hid (GrBox wr w.heap.size t n (.slice ao l.length cap)) ∧ Hid (Gr.err t n l = Gr.errP t n (l.drop k))) (fun _ i _ => l.length - (intOf i).toNat)
  case atStart => exact ⟨0, by omega, rfl, (Below.refl _ _).alloc (Nat.le_refl _) _, Lib.hid ⟨by rw [World.cell?_alloc_new]; rfl, by rw [World.cell?_alloc_new]; rfl, by rw [World.cell?_alloc_new]; rfl⟩, HE⟩
  case round =>
    clear HE
    obtain ⟨k, hk, rfl, hB, hG, hE⟩ := hrel
    by_cases hlt : k < l.length
    · obtain ⟨rfl, hbw, hFb⟩ := C2.out (by omega)
      obtain ⟨vb, hn1, hn2, hbd, hw1, hw2⟩ := C3.out k hlt
      have hc1 := bkeep hB hn1
      have hc2 := bkeep hB hn2
      have HWD := Lib.hid (fun h1 => Gr.errP_wide (t := t) (n := n) (l := l) hlt h1)
      have HBAD := Lib.hid (fun h1 h2 => Gr.errP_bad (t := t) (n := n) (l := l) hlt h1 h2)
      have HNX := Lib.hid (fun h1 h2 => Gr.errP_next (t := t) (n := n) (l := l) hlt h1 h2)
      generalize l.getD k (0, []) = p at *
      obtain ⟨hd, bd⟩ := p
      simp only at hc1 hc2 hbd hw1 hw2
      obtain ⟨ao2, b2, off2, cap2, hvb, hx⟩ := id hbd
      clear hx
      simp only [List.cons.injEq, and_true] at hvb
      subst hvb
      have HBD := Lib.hid hbd
      clear hn1 hn2 hbd
      have hB2 : ∀ o, Below w.heap.size w (wr.alloc o) := fun o => hB.alloc hB.size o
      have hGl := hG.out.lt
      obtain ⟨hg0, hg1, hg2⟩ := id hG.out
      by_cases hwd : 8 < bd.length
      · have HE : Hid (Gr.err t n l = 2) := Lib.hid (by rw [hE.out]; exact HWD.out hwd)
        go_wp2
        go_ret
        exact ⟨by rw [HE.out]; rfl, hB2 _⟩
      by_cases hh1 : hd < 0
      · have HE : Hid (Gr.err t n l = 1) := Lib.hid (by rw [hE.out]; exact HBAD.out hwd (.inl hh1))
        go_wp2
        go_ret
        exact ⟨by rw [HE.out]; rfl, hB2 _⟩
      by_cases hh2 : n ≤ hd
      · have HE : Hid (Gr.err t n l = 1) := Lib.hid (by rw [hE.out]; exact HBAD.out hwd (.inr (.inl hh2)))
        go_wp2
        go_ret
        exact ⟨by rw [HE.out]; rfl, hB2 _⟩
      cases ha : bd.any (fun x => !Gr.right t n x)
      · have HA := Lib.hid ha
        have HX : Hid (Gr.err t n l = Gr.errP t n (l.drop (k + 1))) := Lib.hid (by rw [hE.out]; exact HNX.out hwd (by simp only []; rw [ha]; simp; omega))
        clear ha
        go_wp2_with (go_at_call 112; refine (badSymIn_any t n _ w.heap.size bd _ _ F (Enc.mono _ HBD.out (fun _ h => h) (fun b hb => (hB2 _).block b (hF b hb))) (hG.out.below ((Below.refl _ _).alloc (Nat.le_refl _) _) hGl)).mono ?_; rintro e w9 ⟨rfl, hb9⟩; rw [HA.out])
        go_roundw
        case rel => exact ⟨k + 1, by omega, by go_num, (hB2 _).trans (hb9.mono (hB2 _).size), Lib.hid ((hG.out.below ((Below.refl _ _).alloc (Nat.le_refl _) _) hGl).below hb9 (by simp; omega)), HX⟩
        case measure => simp [intOf]; omega
      · have HA := Lib.hid ha
        have HE : Hid (Gr.err t n l = 1) := Lib.hid (by rw [hE.out]; exact HBAD.out hwd (.inr (.inr ha)))
        clear ha
        go_wp2_with (go_at_call 112; refine (badSymIn_any t n _ w.heap.size bd _ _ F (Enc.mono _ HBD.out (fun _ h => h) (fun b hb => (hB2 _).block b (hF b hb))) (hG.out.below ((Below.refl _ _).alloc (Nat.le_refl _) _) hGl)).mono ?_; rintro e w9 ⟨rfl, hb9⟩; rw [HA.out])
        go_ret
        exact ⟨by rw [HE.out]; rfl, (hB2 _).trans (hb9.mono (hB2 _).size)⟩
    · obtain rfl : k = l.length := by omega
      have HE : Hid (Gr.err t n l = 0) := Lib.hid (by rw [hE.out]; exact Gr.errP_end)
      go_wp2
      go_ret
      exact ⟨by rw [HE.out]; rfl, hB⟩

set_option maxRecDepth 100000 in
set_option maxHeartbeats 8000000 in
theorem rcfg_any (t n : Int) (vp : Value) (l : List (Int × List (Int × Int))) (w : World) (F : Nat → Prop) (hF : ∀ b, F b → b < w.heap.size) (h : Enc.prods.R F w [vp] l) :
    Calls Try.prog 33 #[.agg #[.int .i64 t, .int .i64 n, vp]] w fun e w' => e = .returned (.int .i64 (Gr.err t n l)) ∧ Below w.heap.size w w' := by
  obtain ⟨ao, b, off, cap, rfl, hl, c2, c3⟩ := slProds h
  have C2 := Lib.hid c2; have C3 := Lib.hid c3
  clear c2 c3 h hl
  by_cases h1 : t < 0
  · have HE := Lib.hid (Gr.err_arg (t := t) (n := n) (l := l) (by omega))
    go_enter Try.func33, Try.ntmps33
    go_wp2
    go_ret
    exact ⟨by rw [HE.out]; rfl, (Below.refl _ _).alloc (Nat.le_refl _) _⟩
  by_cases h2 : 30 < t
  · have HE := Lib.hid (Gr.err_arg (t := t) (n := n) (l := l) (by omega))
    go_enter Try.func33, Try.ntmps33
    go_wp2
    go_ret
    exact ⟨by rw [HE.out]; rfl, (Below.refl _ _).alloc (Nat.le_refl _) _⟩
  by_cases h3 : n < 1
  · have HE := Lib.hid (Gr.err_arg (t := t) (n := n) (l := l) (by omega))
    go_enter Try.func33, Try.ntmps33
    go_wp2
    go_ret
    exact ⟨by rw [HE.out]; rfl, (Below.refl _ _).alloc (Nat.le_refl _) _⟩
  by_cases h4 : 20 < n
  · have HE := Lib.hid (Gr.err_arg (t := t) (n := n) (l := l) (by omega))
    go_enter Try.func33, Try.ntmps33
    go_wp2
    go_ret
    exact ⟨by rw [HE.out]; rfl, (Below.refl _ _).alloc (Nat.le_refl _) _⟩
  by_cases h5 : 40 < l.length
  · have HE := Lib.hid (Gr.err_large (t := t) (n := n) (l := l) (by omega) h5)
    go_enter Try.func33, Try.ntmps33
    go_wp2
    go_ret
    exact ⟨by rw [HE.out]; rfl, (Below.refl _ _).alloc (Nat.le_refl _) _⟩
  have HE := Lib.hid (Gr.err_go (t := t) (n := n) (l := l) (by omega) h5)
  go_enter Try.func33, Try.ntmps33
  go_wp2
  go_loopw [3, 4, 5] (fun i _ _ wr => ∃ k : Nat, k ≤ l.length ∧ i = .int .i64 k ∧ Below w.heap.size w wr ∧ Hid (GrBox wr w.heap.size t n (.slice ao l.length cap)) ∧ Hid (Gr.err t n l = Gr.errP t n (l.drop k))) (fun i _ _ _ => l.length - (intOf i).toNat)
  case atStart => exact ⟨0, by omega, rfl, (Below.refl _ _).alloc (Nat.le_refl _) _, Lib.hid ⟨by rw [World.cell?_alloc_new]; rfl, by rw [World.cell?_alloc_new]; rfl, by rw [World.cell?_alloc_new]; rfl⟩, HE⟩
  case round =>
    clear HE
    obtain ⟨k, hk, rfl, hB, hG, hE⟩ := hrel
    obtain ⟨hg0, hg1, hg2⟩ := id hG.out
    by_cases hlt : k < l.length
    · obtain ⟨rfl, hbw, hFb⟩ := C2.out (by omega)
      obtain ⟨vb, hn1, hn2, hbd, hw1, hw2⟩ := C3.out k hlt
      have hc1 := bkeep hB hn1
      have hc2 := bkeep hB hn2
      have HWD := Lib.hid (fun h1 => Gr.errP_wide (t := t) (n := n) (l := l) hlt h1)
      have HBAD := Lib.hid (fun h1 h2 => Gr.errP_bad (t := t) (n := n) (l := l) hlt h1 h2)
      have HNX := Lib.hid (fun h1 h2 => Gr.errP_next (t := t) (n := n) (l := l) hlt h1 h2)
      generalize l.getD k (0, []) = p at *
      obtain ⟨hd, bd⟩ := p
      simp only at hc1 hc2 hbd hw1 hw2
      obtain ⟨ao2, b2, off2, cap2, hvb, _, k3, k4⟩ := slTwo hbd
      subst hvb
      have K3 := Lib.hid k3; have K4 := Lib.hid k4
      clear hn1 hn2 hbd k3 k4
      have hB2 : Hid (∀ o, Below w.heap.size w (wr.alloc o)) := Lib.hid (fun o => hB.alloc hB.size o)
      have hGl := hG.out.lt
      by_cases hwd : 8 < bd.length
      · have HE : Hid (Gr.err t n l = 2) := Lib.hid (by rw [hE.out]; exact HWD.out hwd)
        go_wp2
        go_ret
        exact ⟨by rw [HE.out]; rfl, hB2.out _⟩
      by_cases hh : hd < 0 ∨ n ≤ hd
      · have HE : Hid (Gr.err t n l = 1) := Lib.hid (by rw [hE.out]; exact HBAD.out hwd (by simp only []; omega))
        have HR := Lib.hid (Gr.right_no (t := t) (n := n) (x := (2, hd)) (by simp only []; omega))
        clear hh
        go_wp2_with (go_at_call 30; refine (rightSym_any t n _ 2 hd _).mono ?_; rintro e w9 ⟨rfl, hb9⟩; rw [HR.out])
        go_ret
        exact ⟨by rw [HE.out]; rfl, (hB2.out _).trans (hb9.mono (hB2.out _).size)⟩
      have HR := Lib.hid (Gr.right_yes (t := t) (n := n) (x := (2, hd)) (.inr ⟨rfl, (by omega : 0 ≤ hd), (by omega : hd < n)⟩))
      go_wp2_with (go_at_call 30; refine (rightSym_any t n _ 2 hd _).mono ?_; rintro e w9 ⟨rfl, hb9⟩; rw [HR.out])
      have hB9 := (hB2.out _).trans (hb9.mono (hB2.out _).size)
      have hG9 : GrBox w9 w.heap.size t n (.slice (some ⟨b, off, none⟩) l.length cap) := (hG.out.below ((Below.refl _ _).alloc (Nat.le_refl _) _) hGl).below hb9 (Nat.lt_of_lt_of_le hGl (by simp))
      have hp9 : w9.cell? ⟨wr.heap.size, 1, none⟩ = some (.slice ao2 bd.length cap2) := bkeep hb9 (by rw [World.cell?_alloc_new]; rfl)
      have hpl : wr.heap.size < w9.heap.size := World.block_lt_of_cell? w9 _ hp9
      clear hb9 hc1 hc2 hg0 hg1 hg2
      generalize wr.heap.size = X at *
      have HG9 := Lib.hid hG9; clear hG9
      go_loopw [5] (fun j w2 => ∃ q : Nat, q ≤ bd.length ∧ j = .int .i64 q ∧ Below w9.heap.size w9 w2 ∧ Hid (∀ i, i < q → (!Gr.right t n (bd.getD i (0, 0))) = false)) (fun j _ => bd.length - (intOf j).toNat)
      case atStart => exact ⟨0, by omega, rfl, Below.refl _ _, Lib.hid (fun i hi => absurd hi (by omega))⟩
      case round =>
        obtain ⟨q, hq, rfl, hB3, hok⟩ := hrel
        have hp3 := bkeep hB3 hp9
        by_cases hql : q < bd.length
        · obtain ⟨rfl, hb2w, _⟩ := K3.out (by omega)
          have hs1 := (K4.out q hql).1
          have hs2 := (K4.out q hql).2.1
          have HBK : Hid ((!Gr.right t n (bd.getD q (0, 0))) = true → Gr.err t n l = 1) := Lib.hid (fun h => by rw [hE.out]; exact HBAD.out hwd (.inr (.inr (any_some' hql h))))
          have HOK : Hid ((!Gr.right t n (bd.getD q (0, 0))) = false → ∀ i, i < q + 1 → (!Gr.right t n (bd.getD i (0, 0))) = false) := Lib.hid (fun h i hi => by
            rcases Nat.lt_succ_iff_lt_or_eq.1 hi with hi | rfl
            · exact hok.out i hi
            · exact h)
          generalize bd.getD q (0, 0) = y at *
          obtain ⟨y1, y2⟩ := y
          simp only at hs1 hs2
          have hB4 := hB9.trans (hB3.mono hB9.size)
          have HK : Hid (∀ W', Below w9.heap.size w9 W' → W'.cell? ⟨w.heap.size, 0, none⟩ = some (.int .i64 t) ∧ W'.cell? ⟨w.heap.size, 1, none⟩ = some (.int .i64 n) ∧ W'.cell? ⟨w.heap.size, 2, none⟩ = some (.slice (some ⟨b, off, none⟩) l.length cap) ∧ W'.cell? ⟨X, 1, none⟩ = some (.slice (some ⟨b2, off2, none⟩) bd.length cap2) ∧
            W'.cell? ⟨b2, off2 + q * 2, none⟩ = some (.int .i64 y1) ∧ W'.cell? ⟨b2, off2 + q * 2 + 1, none⟩ = some (.int .i64 y2) ∧ Below w9.heap.size w9 W') := Lib.hid (fun W' hW => by
              have h1 := HG9.out.below hW HG9.out.lt
              have h2 := hB9.trans (hW.mono hB9.size)
              exact ⟨h1.1, h1.2.1, h1.2.2, bkeep hW hp9, bkeep h2 hs1, bkeep h2 hs2, hW⟩)
          clear hs1 hs2
          cases hry : Gr.right t n (y1, y2)
          · have HRY := Lib.hid hry
            have HE : Hid (Gr.err t n l = 1) := Lib.hid (HBK.out (by rw [hry]; rfl))
            clear hry
            go_wp2
            go_region_held3 (fun w' => w'.cell? ⟨w.heap.size, 0, none⟩ = some (.int .i64 t) ∧ w'.cell? ⟨w.heap.size, 1, none⟩ = some (.int .i64 n) ∧ w'.cell? ⟨w.heap.size, 2, none⟩ = some (.slice (some ⟨b, off, none⟩) l.length cap) ∧ w'.cell? ⟨X, 1, none⟩ = some (.slice (some ⟨b2, off2, none⟩) bd.length cap2) ∧
              w'.cell? ⟨b2, off2 + q * 2, none⟩ = some (.int .i64 y1) ∧ w'.cell? ⟨b2, off2 + q * 2 + 1, none⟩ = some (.int .i64 y2) ∧ Below w9.heap.size w9 w') (first | exact HK.out _ hB3 | exact HK.out _ hB3.drew)
              ((go_at_call 30; have hh := ‹_ ∧ _ ∧ _ ∧ _ ∧ _ ∧ _ ∧ Below w9.heap.size w9 _›; refine (rightSym_any t n _ y1 y2 _).mono ?_; rintro e w5 ⟨rfl, hb5⟩; rw [HRY.out]; have hB3 := hh.2.2.2.2.2.2.trans (hb5.mono hh.2.2.2.2.2.2.size); clear hh hb5))
            go_wp2
            have hh := ‹_ ∧ _ ∧ _ ∧ _ ∧ _ ∧ _ ∧ Below w9.heap.size w9 _›
            go_ret
            exact ⟨by rw [HE.out]; rfl, hB9.trans (hh.2.2.2.2.2.2.mono hB9.size)⟩
          · have HRY := Lib.hid hry
            have HX := Lib.hid (HOK.out (by rw [hry]; rfl))
            clear hry
            go_wp2
            go_region_held3 (fun w' => w'.cell? ⟨w.heap.size, 0, none⟩ = some (.int .i64 t) ∧ w'.cell? ⟨w.heap.size, 1, none⟩ = some (.int .i64 n) ∧ w'.cell? ⟨w.heap.size, 2, none⟩ = some (.slice (some ⟨b, off, none⟩) l.length cap) ∧ w'.cell? ⟨X, 1, none⟩ = some (.slice (some ⟨b2, off2, none⟩) bd.length cap2) ∧
              w'.cell? ⟨b2, off2 + q * 2, none⟩ = some (.int .i64 y1) ∧ w'.cell? ⟨b2, off2 + q * 2 + 1, none⟩ = some (.int .i64 y2) ∧ Below w9.heap.size w9 w') (first | exact HK.out _ hB3 | exact HK.out _ hB3.drew)
              ((go_at_call 30; have hh := ‹_ ∧ _ ∧ _ ∧ _ ∧ _ ∧ _ ∧ Below w9.heap.size w9 _›; refine (rightSym_any t n _ y1 y2 _).mono ?_; rintro e w5 ⟨rfl, hb5⟩; rw [HRY.out]; have hB3 := hh.2.2.2.2.2.2.trans (hb5.mono hh.2.2.2.2.2.2.size); clear hh hb5))
            go_wp2
            have hh := ‹_ ∧ _ ∧ _ ∧ _ ∧ _ ∧ _ ∧ Below w9.heap.size w9 _›
            go_roundw
            case rel => exact ⟨q + 1, by omega, by go_num, hh.2.2.2.2.2.2, HX⟩
            case measure => simp [intOf]; omega
        · obtain rfl : q = bd.length := by omega
          have HX : Hid (Gr.err t n l = Gr.errP t n (l.drop (k + 1))) := Lib.hid (by rw [hE.out]; exact HNX.out hwd (by rw [any_none' hok.out]; simp; omega))
          go_wp2
          go_roundw
          case rel => exact ⟨k + 1, by omega, by go_num, hB9.trans (hB3.mono hB9.size), Lib.hid (HG9.out.below hB3 HG9.out.lt), HX⟩
          case measure => simp [intOf]; omega
    · obtain rfl : k = l.length := by omega
      have HE : Hid (Gr.err t n l = 0) := Lib.hid (by rw [hE.out]; exact Gr.errP_end)
      go_wp2
      go_ret
      exact ⟨by rw [HE.out]; rfl, hB⟩
end Go.Proofs.Ytkhjncbjdldpbaa

/-
  The facts of a grammar, found by rounds: what they are. (Plain functions; nothing of the program is claimed.)
-/
namespace Go.Proofs.Ytkhjncbjdldpbaa
set_option linter.unusedVariables false

namespace Fc
/-- The facts, and their bounds. -/
structure Good (l : List Pr) (N : Nat) (E : List Bool) (F W : List Nat) (R M : List Bool) : Prop where
  s : Spec l N E F W R M
  e : E.length = N
  f : F.length = N
  w : W.length = N
  r : R.length = N
  m : M.length = N
  fb : ∀ i, F.getD i 0 < 2 ^ 64
  wb : ∀ i, W.getD i 0 < 2 ^ 64
theorem iterF_le {E M : List Bool} {l : List Pr} {t : Nat} {S : Nat → Bool} (hS : clF l E M t S) : ∀ {j : Nat} {X : List Nat}, (∀ p ∈ l, p.1.toNat < X.length) → (∀ i, (X.getD i 0).testBit t = true → S i = true) → ∀ i, ((iter (rdF E M l) j X).getD i 0).testBit t = true → S i = true := by
  intro j
  induction j with
  | zero => intro X _ h; exact h
  | succ j ih =>
    intro X hl h
    exact ih (fun p hp => by rw [rdF_len]; exact hl p hp) (rdF_le hS (fun p hp => hp) hl h)
theorem okP_of {t n : Int} {l : List Pr} (h : Gr.err t n l = 0) : ∀ p ∈ l, okP n.toNat p := by
  obtain ⟨h1, h2, h3, h4, h5, h6⟩ := Gr.err_zero h
  intro p hp
  obtain ⟨-, a, b, c⟩ := h6 p hp
  refine ⟨a, by omega, fun x hx => ?_⟩
  rcases Gr.right_iff.1 (c x hx) with ⟨d, e, f⟩ | ⟨d, e, f⟩
  · exact .inl ⟨d, e, by omega⟩
  · exact .inr ⟨d, e, by omega⟩
theorem getD_rep {α : Type} {n i : Nat} {d : α} : (List.replicate n d).getD i d = d := by
  rw [List.getD_eq_getElem?_getD, List.getElem?_replicate]; split <;> rfl
theorem le_rep {n : Nat} (Y : List Bool) : le (List.replicate n false) Y := fun i h => by rw [getD_rep] at h; cases h
theorem getD_rep0 {α : Type} {n i : Nat} {d v : α} (hn : 0 < n) : ((List.replicate n d).set 0 v).getD i d = if i = 0 then v else d := by
  rw [List.getD_eq_getElem?_getD, List.getElem?_set]
  by_cases h : i = 0
  · subst h; simp [hn]
  · rw [if_neg (by omega), if_neg h, List.getElem?_replicate]; split <;> rfl
theorem le_rep0 {n : Nat} {l : List Pr} (hn : 0 < n) : ∀ Y, clR l Y → le ((List.replicate n false).set 0 true) Y := fun Y hY i h => by
  rw [getD_rep0 hn] at h
  split at h
  · rename_i e; subst e; exact hY.1
  · cases h
/-- What the rounds have found. -/
structure Und (l : List Pr) (N : Nat) (E M R : List Bool) : Prop where
  e : E.length = N
  m : M.length = N
  r : R.length = N
  ee : ∀ Y, clA l false Y → le E Y
  mm : ∀ Y, clA l true Y → le M Y
  rr : ∀ Y, clR l Y → le R Y
  r0 : R.getD 0 false = true
theorem Und.init {l : List Pr} {N : Nat} (hN : 0 < N) : Und l N (List.replicate N false) (List.replicate N false) ((List.replicate N false).set 0 true) :=
  ⟨by simp, by simp, by simp, fun Y _ => le_rep Y, fun Y _ => le_rep Y, le_rep0 hN, by rw [getD_rep0 hN]; rfl⟩
theorem Und.next {l : List Pr} {N : Nat} {E M R : List Bool} (h : Und l N E M R) : Und l N (rdA false l E) (rdA true l M) (rdR l R) :=
  ⟨by rw [rdA_len]; exact h.e, by rw [rdA_len]; exact h.m, by rw [rdR_len]; exact h.r, fun Y hY => rdA_le hY (fun p hp => hp) (h.ee Y hY), fun Y hY => rdA_le hY (fun p hp => hp) (h.mm Y hY), fun Y hY => rdR_le hY (fun p hp => hp) (h.rr Y hY), rdR_ge 0 h.r0⟩
theorem okP_head {n : Nat} {l : List Pr} (h : ∀ p ∈ l, okP n p) : ∀ p ∈ l, p.1.toNat < n := fun p hp => by have := h p hp; have := this.1; have := (h p hp).2.1; omega
theorem okP_body {n : Nat} {l : List Pr} (h : ∀ p ∈ l, okP n p) : ∀ p ∈ l, ∀ x ∈ p.2, x.1 = 2 → x.2.toNat < n := fun p hp x hx h2 => by
  rcases (h p hp).2.2 x hx with ⟨a, -⟩ | ⟨-, a, b⟩ <;> omega
theorem Good.of {l : List Pr} {N : Nat} {E M R : List Bool} {j q : Nat} (hok : ∀ p ∈ l, okP N p) (hN : 0 < N) (h : Und l N E M R) (hE : rdA false l E = E) (hM : rdA true l M = M) (hR : rdR l R = R)
    (hF : rdF E M l (iter (rdF E M l) j (List.replicate N 0)) = iter (rdF E M l) j (List.replicate N 0))
    (hW : fol E (iter (rdF E M l) j (List.replicate N 0)) l (iter (fol E (iter (rdF E M l) j (List.replicate N 0)) l) q ((List.replicate N 0).set 0 9223372036854775808)) = iter (fol E (iter (rdF E M l) j (List.replicate N 0)) l) q ((List.replicate N 0).set 0 9223372036854775808)) :
    Good l N E (iter (rdF E M l) j (List.replicate N 0)) (iter (fol E (iter (rdF E M l) j (List.replicate N 0)) l) q ((List.replicate N 0).set 0 9223372036854775808)) R M := by
  have hfl : (iter (rdF E M l) j (List.replicate N 0)).length = N := by rw [iter_len (fun W => rdF_len)]; simp
  have hfb : ∀ i, (iter (rdF E M l) j (List.replicate N 0)).getD i 0 < 2 ^ 64 := iter_lt (fun W => ∀ i, W.getD i 0 < 2 ^ 64) (fun W hW => rdF_lt (fun p hp => okP_lt (hok p hp)) hW) (fun i => by rw [getD_rep]; decide)
  refine ⟨⟨LA_of h.e (okP_head hok) h.ee hE, LA_of h.m (okP_head hok) h.mm hM, LR_of h.r h.r0 (okP_body hok) h.rr hR, LF_of hfl (okP_head hok) (fun t S hS i hi => ?_) hF, ⟨⟨q, rfl⟩, hW⟩⟩, h.e, hfl, ?_, h.r, h.m, hfb, ?_⟩
  · refine iterF_le hS (j := j) (X := List.replicate N 0) (fun p hp => by simp; exact okP_head hok p hp) (fun i hi => ?_) i hi
    rw [getD_rep] at hi; simp at hi
  · rw [iter_len (fun W => fol_len)]; simp
  · refine iter_lt (fun W => ∀ i, W.getD i 0 < 2 ^ 64) (fun W hW => fol_lt hfb (fun p hp => okP_lt (hok p hp)) hW) (fun i => ?_)
    rw [getD_rep0 hN]; split <;> decide
end Fc
end Go.Proofs.Ytkhjncbjdldpbaa

/-
  States of items, plainly: what comes up behind an item; a closed list: each item once, all that can be come to. (Plain functions; nothing of the program is claimed.)
-/
namespace Go.Proofs.Ytkhjncbjdldpbaa
set_option linter.unusedVariables false

namespace It
/-- Production, dot, look. -/
abbrev I := Int × Int × Int
def body (l : List Fc.Pr) (p : Int) : List (Int × Int) := if p = l.length then [(2, 0)] else (l.getD p.toNat (0, [])).2
def rest (l : List Fc.Pr) (p d : Int) : List (Int × Int) := (body l p).drop (d.toNat + 1)
def okI (t : Int) (l : List Fc.Pr) (x : I) : Prop := 0 ≤ x.1 ∧ x.1 ≤ l.length ∧ 0 ≤ x.2.1 ∧ x.2.1 ≤ (body l x.1).length ∧ 0 ≤ x.2.2 ∧ x.2.2 ≤ t

section
variable {E : List Bool} {F : List Nat}
/-- What is behind shows only through what may be empty. -/
theorem beg_split (b : Nat) (r : List (Int × Int)) (hr : ∀ x ∈ r, x.1 = 1 ∨ x.1 = 2) : Fc.beg E F b r = Fc.beg E F 0 r ||| (if Fc.all E false r = true then b else 0) := by
  induction r with
  | nil => simp [Fc.beg, Fc.all]
  | cons x r ih =>
    have ih' := ih (fun z hz => hr z (.tail _ hz))
    rcases hr x (.head _) with h | h
    · have ha : Fc.all E false (x :: r) = false := by rw [Fc.all, if_pos (.inl ⟨h, rfl⟩)]
      rw [Fc.beg_term h, Fc.beg_term h, ha, if_neg (by simp), Nat.or_zero]
    · cases h2 : E.getD x.2.toNat false
      · have ha : Fc.all E false (x :: r) = false := by rw [Fc.all, if_pos (.inr ⟨h, h2⟩)]
        rw [Fc.beg_stop (by omega) h2, Fc.beg_stop (by omega) h2, ha, if_neg (by simp), Nat.or_zero]
      · have ha : Fc.all E false (x :: r) = Fc.all E false r := by
          rw [Fc.all, if_neg]
          rintro (⟨h3, -⟩ | ⟨-, h3⟩)
          · omega
          · rw [h2] at h3; cases h3
        rw [Fc.beg_on (by omega) h2, Fc.beg_on (by omega) h2, ih', ha, Nat.or_assoc]
end

/-- What may come up behind an item: the look k. -/
def opens (E : List Bool) (F : List Nat) (l : List Fc.Pr) (x : I) (k : Nat) : Bool := (Fc.beg E F 0 (rest l x.1 x.2.1)).testBit k || (Fc.all E false (rest l x.1 x.2.1) && decide (x.2.2 = (k : Int)))
/-- What comes up at a production. -/
def atP (T : Nat) (E : List Bool) (F : List Nat) (l : List Fc.Pr) (x : I) (i : Nat) : List I :=
  if (l.getD i (0, [])).1 = ((body l x.1).getD x.2.1.toNat (0, 0)).2 then ((List.range (T + 1)).filter (opens E F l x)).map (fun k : Nat => ((i : Int), (0 : Int), (k : Int))) else []
def stops (l : List Fc.Pr) (x : I) : Prop := x.2.1 = (body l x.1).length ∨ ((body l x.1).getD x.2.1.toNat (0, 0)).1 ≠ 2
open Classical in
/-- What comes up behind an item. -/
noncomputable def nexts (T : Nat) (E : List Bool) (F : List Nat) (l : List Fc.Pr) (x : I) : List I :=
  if stops l x then [] else (List.range l.length).flatMap (atP T E F l x)
theorem nexts_stop {T E F l x} (h : stops l x) : nexts T E F l x = [] := by rw [nexts, if_pos h]
theorem nexts_go {T E F l x} (h : ¬ stops l x) : nexts T E F l x = (List.range l.length).flatMap (atP T E F l x) := by rw [nexts, if_neg h]
theorem mem_atP {T E F l x} {i : Nat} {y : I} (h : y ∈ atP T E F l x i) : y.1 = i ∧ y.2.1 = 0 ∧ 0 ≤ y.2.2 ∧ y.2.2 ≤ T := by
  unfold atP at h
  split at h
  · obtain ⟨k, hk, rfl⟩ := List.mem_map.1 h
    have := List.mem_range.1 (List.mem_filter.1 hk).1
    exact ⟨rfl, rfl, by show (0 : Int) ≤ (k : Int); omega, by show (k : Int) ≤ T; omega⟩
  · cases h
theorem nexts_ok {T : Nat} {E F l x} {y : I} (h : y ∈ nexts T E F l x) : okI T l y := by
  by_cases hs : stops l x
  · rw [nexts_stop hs] at h; cases h
  · rw [nexts_go hs] at h
    obtain ⟨i, hi, hy⟩ := List.mem_flatMap.1 h
    have h1 := List.mem_range.1 hi
    obtain ⟨a, b, c, d⟩ := mem_atP hy
    refine ⟨by omega, by omega, by omega, by omega, c, d⟩

/-- All that can be come to. -/
inductive Rch (f : I → List I) (L : List I) : I → Prop
  | base {x} : x ∈ L → Rch f L x
  | step {x y} : Rch f L x → y ∈ f x → Rch f L y
theorem Rch.all {f : I → List I} {L : List I} {p : I → Prop} (h1 : ∀ x ∈ L, p x) (h2 : ∀ x, p x → ∀ y ∈ f x, p y) {x : I} (h : Rch f L x) : p x := by
  induction h with
  | base h => exact h1 _ h
  | step _ h ih => exact h2 _ ih _ h
/-- One more, if it is new. -/
def put (out : List I) (y : I) : List I := if y ∈ out then out else out ++ [y]
def puts (ys out : List I) : List I := ys.foldl put out
theorem put_old {out y} (h : y ∈ out) : put out y = out := if_pos h
theorem put_new {out y} (h : y ∉ out) : put out y = out ++ [y] := if_neg h
theorem put_mem {out : List I} {y x : I} : x ∈ put out y ↔ x ∈ out ∨ x = y := by
  by_cases h : y ∈ out
  · rw [put_old h]; exact ⟨.inl, fun h' => h'.elim id (fun e => e ▸ h)⟩
  · rw [put_new h, List.mem_append, List.mem_singleton]
theorem put_nodup {out : List I} {y : I} (h : out.Nodup) : (put out y).Nodup := by
  by_cases hy : y ∈ out
  · rw [put_old hy]; exact h
  · rw [put_new hy]
    refine List.nodup_append.2 ⟨h, by simp, fun a ha b hb => ?_⟩
    rw [List.mem_singleton.1 hb]
    exact fun e => hy (e ▸ ha)
theorem put_pre {out : List I} {y : I} : ∃ r, put out y = out ++ r := by
  by_cases hy : y ∈ out
  · exact ⟨[], by rw [put_old hy, List.append_nil]⟩
  · exact ⟨[y], put_new hy⟩
theorem puts_nil {out} : puts [] out = out := rfl
theorem puts_snoc {ys : List I} {y : I} {out : List I} : puts (ys ++ [y]) out = put (puts ys out) y := by simp [puts]
theorem puts_append {a b out} : puts (a ++ b) out = puts b (puts a out) := by simp [puts]
theorem puts_mem {ys : List I} : ∀ {out : List I} {x : I}, x ∈ puts ys out ↔ x ∈ out ∨ x ∈ ys := by
  induction ys with
  | nil => intro out x; simp [puts]
  | cons y r ih => intro out x; show x ∈ puts r (put out y) ↔ _; rw [ih, put_mem, List.mem_cons, or_assoc]
theorem puts_nodup {ys : List I} : ∀ {out : List I}, out.Nodup → (puts ys out).Nodup := by
  induction ys with
  | nil => intro out h; exact h
  | cons y r ih => intro out h; exact ih (put_nodup h)
theorem puts_pre {ys : List I} : ∀ {out : List I}, ∃ r, puts ys out = out ++ r := by
  induction ys with
  | nil => intro out; exact ⟨[], by simp [puts]⟩
  | cons y r ih =>
    intro out
    obtain ⟨a, ha⟩ := put_pre (out := out) (y := y)
    obtain ⟨b, hb⟩ := ih (out := put out y)
    exact ⟨a ++ b, by show puts r (put out y) = _; rw [hb, ha, List.append_assoc]⟩

/-- The loop over what has been put. -/
structure Inv (f : I → List I) (L : List I) (n : Nat) (out : List I) : Prop where
  nd : out.Nodup
  rch : ∀ x ∈ out, Rch f L x
  base : ∀ x ∈ L, x ∈ out
  cl : ∀ i, i < n → ∀ y ∈ f (out.getD i (0, 0, 0)), y ∈ out
theorem inv_start {f L} : Inv f L 0 (puts L []) :=
  ⟨puts_nodup (by simp), fun x h => (puts_mem.1 h).elim (fun h => by cases h) .base, fun x h => puts_mem.2 (.inr h), fun i h => by omega⟩
theorem inv_step {f L n out} (h : Inv f L n out) (hn : n < out.length) : Inv f L (n + 1) (puts (f (out.getD n (0, 0, 0))) out) := by
  obtain ⟨r, hr⟩ := puts_pre (ys := f (out.getD n (0, 0, 0))) (out := out)
  have hin : out.getD n (0, 0, 0) ∈ out := by rw [List.getD_eq_getElem?_getD, List.getElem?_eq_getElem hn]; exact List.getElem_mem _
  refine ⟨puts_nodup h.nd, fun x hx => ?_, fun x hx => puts_mem.2 (.inl (h.base x hx)), fun i hi y hy => ?_⟩
  · rcases puts_mem.1 hx with hx | hx
    · exact h.rch x hx
    · exact .step (h.rch _ hin) hx
  · rw [show (puts (f (out.getD n (0, 0, 0))) out).getD i (0, 0, 0) = out.getD i (0, 0, 0) by rw [hr, List.getD_eq_getElem?_getD, List.getElem?_append_left (by omega), ← List.getD_eq_getElem?_getD]] at hy
    by_cases hin' : i = n
    · subst hin'; exact puts_mem.2 (.inr hy)
    · exact puts_mem.2 (.inl (h.cl i (by omega) y hy))
theorem inv_end {f L out} (h : Inv f L out.length out) (x : I) : x ∈ out ↔ Rch f L x := by
  refine ⟨h.rch x, fun hx => ?_⟩
  induction hx with
  | base h' => exact h.base _ h'
  | step _ hy ih =>
    obtain ⟨i, hi, he⟩ := List.getElem_of_mem ih
    refine h.cl i hi _ ?_
    rw [List.getD_eq_getElem?_getD, List.getElem?_eq_getElem hi, Option.getD_some, he]
    exact hy

/-- The loop over a queue. -/
structure Vis (f : I → List I) (L : List I) (V : I → Prop) (todo : List I) : Prop where
  rch : ∀ x, V x ∨ x ∈ todo → Rch f L x
  base : ∀ x ∈ L, V x ∨ x ∈ todo
  cl : ∀ x, V x → ∀ y ∈ f x, V y ∨ y ∈ todo
theorem vis_start {f L} : Vis f L (fun _ => False) L := ⟨fun x h => .base (h.elim False.elim id), fun x h => .inr h, fun x h => h.elim⟩
theorem vis_old {f L V x todo} (h : Vis f L V (x :: todo)) (hx : V x) : Vis f L V todo :=
  ⟨fun y hy => h.rch y (hy.elim .inl (fun k => .inr (.tail _ k))), fun y hy => (h.base y hy).elim .inl (fun k => (List.mem_cons.1 k).elim (fun e => .inl (e ▸ hx)) .inr),
   fun z hz y hy => (h.cl z hz y hy).elim .inl (fun k => (List.mem_cons.1 k).elim (fun e => .inl (e ▸ hx)) .inr)⟩
/-- New: what comes up behind it (but what has been seen) comes behind the others. -/
theorem vis_new {f L V x todo} {V' : I → Prop} {g : I → Bool} (h : Vis f L V (x :: todo)) (hV : ∀ y, V' y ↔ V y ∨ y = x) (hg : ∀ y, g y = false → V' y) : Vis f L V' (todo ++ (f x).filter g) := by
  have key : ∀ y, y ∈ f x → V' y ∨ y ∈ todo ++ (f x).filter g := fun y hy => by
    cases hgy : g y
    · exact .inl (hg y hgy)
    · exact .inr (List.mem_append_right _ (List.mem_filter.2 ⟨hy, hgy⟩))
  have old : ∀ y, V y ∨ y ∈ x :: todo → V' y ∨ y ∈ todo ++ (f x).filter g := fun y hy => by
    rcases hy with hy | hy
    · exact .inl ((hV y).2 (.inl hy))
    · rcases List.mem_cons.1 hy with e | hy
      · exact .inl ((hV y).2 (.inr e))
      · exact .inr (List.mem_append_left _ hy)
  refine ⟨fun y hy => ?_, fun y hy => old y (h.base y hy), fun z hz y hy => ?_⟩
  · rcases hy with hy | hy
    · rcases (hV y).1 hy with hy | rfl
      · exact h.rch y (.inl hy)
      · exact h.rch y (.inr (.head _))
    · rcases List.mem_append.1 hy with hy | hy
      · exact h.rch y (.inr (.tail _ hy))
      · exact .step (h.rch x (.inr (.head _))) (List.mem_filter.1 hy).1
  · rcases (hV z).1 hz with hz | rfl
    · exact old y (h.cl z hz y hy)
    · exact key y hy
theorem vis_end {f L V} (h : Vis f L V []) (x : I) : V x ↔ Rch f L x := by
  refine ⟨fun hx => h.rch x (.inl hx), fun hx => ?_⟩
  induction hx with
  | base h' => exact (h.base _ h').elim id (fun k => by cases k)
  | step _ hy ih => exact (h.cl _ ih _ hy).elim id (fun k => by cases k)

/-- The order of items. -/
def lt (x y : I) : Bool := decide (x.1 < y.1) || (decide (x.1 = y.1) && (decide (x.2.1 < y.2.1) || (decide (x.2.1 = y.2.1) && decide (x.2.2 < y.2.2))))
theorem lt_iff {x y : I} : lt x y = true ↔ x.1 < y.1 ∨ (x.1 = y.1 ∧ (x.2.1 < y.2.1 ∨ (x.2.1 = y.2.1 ∧ x.2.2 < y.2.2))) := by simp [lt]
theorem lt_irr (x : I) : lt x x = false := by rw [← Bool.not_eq_true, lt_iff]; omega
theorem lt_trans {x y z : I} (h1 : lt x y = true) (h2 : lt y z = true) : lt x z = true := by rw [lt_iff] at *; omega
theorem lt_ntrans {x y z : I} (h1 : lt x y = false) (h2 : lt y z = false) : lt x z = false := by
  rw [← Bool.not_eq_true, lt_iff] at *; omega
theorem lt_conn {x y : I} (h1 : lt x y = false) (h2 : lt y x = false) : x = y := by
  rw [← Bool.not_eq_true, lt_iff] at *
  obtain ⟨a, b, c⟩ := x
  obtain ⟨a', b', c'⟩ := y
  simp only at *
  rw [show a = a' by omega, show b = b' by omega, show c = c' by omega]
/-- Two rising lists of the same items are one. -/
theorem rise_one : ∀ (A B : List I), A.Pairwise (fun x y => lt x y = true) → B.Pairwise (fun x y => lt x y = true) → (∀ x, x ∈ A ↔ x ∈ B) → A = B := by
  intro A
  induction A with
  | nil =>
    intro B _ _ h
    cases B with
    | nil => rfl
    | cons y r => exact absurd ((h y).2 (.head _)) (by simp)
  | cons x A ih =>
    intro B hA hB h
    cases B with
    | nil => exact absurd ((h x).1 (.head _)) (by simp)
    | cons y B =>
      rw [List.pairwise_cons] at hA hB
      have hxy : x = y := by
        rcases List.mem_cons.1 ((h x).1 (.head _)) with e | hx
        · exact e
        · rcases List.mem_cons.1 ((h y).2 (.head _)) with e | hy
          · exact e.symm
          · have h1 := hB.1 x hx
            have h2 := hA.1 y hy
            have := lt_trans h1 h2
            rw [lt_irr] at this; cases this
      subst hxy
      congr 1
      refine ih B hA.2 hB.2 (fun z => ?_)
      have hz := h z
      rw [List.mem_cons, List.mem_cons] at hz
      constructor
      · intro h1
        rcases hz.1 (.inr h1) with e | h2
        · subst e; have := hA.1 z h1; rw [lt_irr] at this; cases this
        · exact h2
      · intro h1
        rcases hz.2 (.inr h1) with e | h2
        · subst e; have := hB.1 z h1; rw [lt_irr] at this; cases this
        · exact h2

/-- How many items there may be: a list without any twice has no more. -/
def code (x : I) : Nat := (x.1.toNat * 9 + x.2.1.toNat) * 31 + x.2.2.toNat
theorem nodup_len : ∀ (m : Nat) (A : List Nat), A.Nodup → (∀ x ∈ A, x < m) → A.length ≤ m := by
  intro m
  induction m with
  | zero =>
    intro A _ h
    cases A with
    | nil => exact Nat.le_refl _
    | cons x r => exact absurd (h x (.head _)) (by omega)
  | succ m ih =>
    intro A hn h
    have h1 := ih (A.erase m) (hn.erase m) (fun x hx => by
      have h2 := h x (List.mem_of_mem_erase hx)
      have h3 : x ≠ m := fun e => by subst e; exact (hn.not_mem_erase) hx
      omega)
    have h2 := List.length_erase_le (a := m) (l := A)
    by_cases hm : m ∈ A
    · rw [List.length_erase_of_mem hm] at h1; omega
    · rw [List.erase_of_not_mem hm] at h1; omega
theorem len_bound {t : Int} {l : List Fc.Pr} (ht : t ≤ 30) (hl : l.length ≤ 40) (hb : ∀ p : Int, 0 ≤ p → p ≤ l.length → (body l p).length ≤ 8) {out : List I} (hn : out.Nodup) (ho : ∀ x ∈ out, okI t l x) : out.length ≤ 11439 := by
  have h := nodup_len 11439 (out.map code) ?_ ?_
  · rwa [List.length_map] at h
  · refine List.Pairwise.map _ ?_ (List.Pairwise.and_mem.1 hn)
    rintro x y ⟨hx, hy, hne⟩ he
    obtain ⟨a1, a2, a3, a4, a5, a6⟩ := ho x hx
    obtain ⟨b1, b2, b3, b4, b5, b6⟩ := ho y hy
    have c1 := hb x.1 a1 a2
    have c2 := hb y.1 b1 b2
    apply hne
    unfold code at he
    obtain ⟨p, d, k⟩ := x
    obtain ⟨p', d', k'⟩ := y
    simp only at *
    rw [show p = p' by omega, show d = d' by omega, show k = k' by omega]
  · intro c hc
    obtain ⟨x, hx, rfl⟩ := List.mem_map.1 hc
    obtain ⟨a1, a2, a3, a4, a5, a6⟩ := ho x hx
    have c1 := hb x.1 a1 a2
    unfold code
    omega
end It
end Go.Proofs.Ytkhjncbjdldpbaa

/-
  States of items, plainly: which looks come up, as the program's sets of bits tell it and as the reference's do. (Nothing of the program is claimed.)
-/
namespace Go.Proofs.Ytkhjncbjdldpbaa
set_option linter.unusedVariables false

namespace It
theorem begB_none {E : List Bool} {k : Nat} {t n : Int} : ∀ (b : List (Int × Int)), (∀ x ∈ b, Gr.right t n x = true) → t ≤ k → Fc.begB E (fun _ => false) k b = false := by
  intro b
  induction b with
  | nil => intro _ _; rfl
  | cons x r ih =>
    intro hb hk
    have hx := Gr.right_iff.1 (hb x (.head _))
    have hr := ih (fun z hz => hb z (.tail _ hz)) hk
    rw [Fc.begB]
    rcases hx with ⟨h1, h2, h3⟩ | ⟨h1, h2, h3⟩
    · rw [if_pos h1, decide_eq_false (by omega)]
    · rw [if_neg (by omega), if_neg (by simp)]
      split
      · exact hr
      · rfl
theorem F_lt {t n : Int} {l : List Fc.Pr} {N : Nat} {E : List Bool} {F W : List Nat} {R M : List Bool} (h : Fc.Good l N E F W R M) (he : Gr.err t n l = 0) : ∀ i, F.getD i 0 < 2 ^ t.toNat := by
  have hz := (Gr.err_zero he).2.2.2.2.2
  intro i
  refine Nat.lt_pow_two_of_testBit _ (fun k hk => ?_)
  have hcl : Fc.clF l E M k (fun _ => false) := fun p hp _ hb => by
    rw [begB_none p.2 (hz p hp).2.2.2 (by omega)] at hb; exact hb
  cases hbt : (F.getD i 0).testBit k
  · rfl
  · exact absurd ((h.s.f.2 k).2 _ hcl i hbt) (by simp)
section
variable {t n : Int} {l : List Fc.Pr} {N : Nat} {E : List Bool} {F W : List Nat} {R M : List Bool}
theorem body_right (he : Gr.err t n l = 0) {p : Int} (h0 : 0 ≤ p) (h1 : p ≤ l.length) : (body l p).length ≤ 8 ∧ ∀ x ∈ body l p, Gr.right t n x = true := by
  have hz := Gr.err_zero he
  unfold body
  by_cases hp : p = l.length
  · rw [if_pos hp]
    refine ⟨by decide, fun x hx => ?_⟩
    rw [List.mem_singleton.1 hx, Gr.right_iff]
    exact .inr ⟨rfl, Int.le_refl 0, show (0 : Int) < n by omega⟩
  · rw [if_neg hp]
    have hm : l.getD p.toNat (0, []) ∈ l := by
      have : p.toNat < l.length := by omega
      rw [List.getD_eq_getElem?_getD, List.getElem?_eq_getElem this]; exact List.getElem_mem _
    have := hz.2.2.2.2.2 _ hm
    exact ⟨this.1, this.2.2.2⟩
theorem rest_right (he : Gr.err t n l = 0) {p d : Int} (h0 : 0 ≤ p) (h1 : p ≤ l.length) : (rest l p d).length ≤ 8 ∧ ∀ x ∈ rest l p d, Gr.right t n x = true := by
  have h := body_right he h0 h1
  exact ⟨by unfold rest; rw [List.length_drop]; omega, fun x hx => h.2 x (List.mem_of_mem_drop hx)⟩
theorem kinds (he : Gr.err t n l = 0) {p d : Int} (h0 : 0 ≤ p) (h1 : p ≤ l.length) : ∀ x ∈ rest l p d, x.1 = 1 ∨ x.1 = 2 := fun x hx => by
  have := Gr.right_iff.1 ((rest_right he h0 h1).2 x hx); omega
theorem base_lt (h : Fc.Good l N E F W R M) (he : Gr.err t n l = 0) {p d : Int} (h0 : 0 ≤ p) (h1 : p ≤ l.length) : Fc.beg E F 0 (rest l p d) < 2 ^ t.toNat :=
  Fc.beg_lt (F_lt h he) (Nat.two_pow_pos _) (fun x hx hk => by have := Gr.right_iff.1 ((rest_right he h0 h1).2 x hx); omega)
/-- What the program keeps for a place, what it tells of an item. -/
def mark (E : List Bool) (F : List Nat) (l : List Fc.Pr) (p d : Int) : Nat := Fc.beg E F 4611686018427387904 (rest l p d)
def look (E : List Bool) (F : List Nat) (l : List Fc.Pr) (x : I) : Nat := if Fc.all E false (rest l x.1 x.2.1) = true then Fc.beg E F 0 (rest l x.1 x.2.1) ||| 2 ^ x.2.2.toNat else Fc.beg E F 0 (rest l x.1 x.2.1)
theorem mark_eq (he : Gr.err t n l = 0) {p d : Int} (h0 : 0 ≤ p) (h1 : p ≤ l.length) : mark E F l p d = Fc.beg E F 0 (rest l p d) ||| (if Fc.all E false (rest l p d) = true then 2 ^ 62 else 0) := by
  rw [mark, beg_split _ _ (kinds he h0 h1)]
theorem pow30 (he : Gr.err t n l = 0) : 2 ^ t.toNat ≤ 1073741824 := by
  have := (Gr.err_zero he)
  have h : t.toNat ≤ 30 := by omega
  calc 2 ^ t.toNat ≤ 2 ^ 30 := Nat.pow_le_pow_right (by decide) h
    _ = 1073741824 := by decide
theorem base_30 (h : Fc.Good l N E F W R M) (he : Gr.err t n l = 0) {p d : Int} (h0 : 0 ≤ p) (h1 : p ≤ l.length) : Fc.beg E F 0 (rest l p d) < 1073741824 :=
  Nat.lt_of_lt_of_le (base_lt h he h0 h1) (pow30 he)
theorem base_out (h : Fc.Good l N E F W R M) (he : Gr.err t n l = 0) {p d : Int} (h0 : 0 ≤ p) (h1 : p ≤ l.length) {k : Nat} (hk : t.toNat ≤ k) : (Fc.beg E F 0 (rest l p d)).testBit k = false :=
  Nat.testBit_lt_two_pow (Nat.lt_of_lt_of_le (base_lt h he h0 h1) (Nat.pow_le_pow_right (by decide) hk))
theorem or_pow {a k : Nat} (h : a < 2 ^ k) : a ||| 2 ^ k = 2 ^ k + a := by
  have := Nat.two_pow_add_eq_or_of_lt h 1
  rw [Nat.mul_one] at this
  rw [this, Nat.or_comm]
/-- The mark's bit 62. -/
theorem mark_no (h : Fc.Good l N E F W R M) (he : Gr.err t n l = 0) {p d : Int} (h0 : 0 ≤ p) (h1 : p ≤ l.length) (ha : Fc.all E false (rest l p d) = false) : mark E F l p d = Fc.beg E F 0 (rest l p d) ∧ mark E F l p d < 1073741824 := by
  have := mark_eq (E := E) (F := F) he (d := d) h0 h1
  rw [ha, if_neg (by simp), Nat.or_zero] at this
  exact ⟨this, by rw [this]; exact base_30 h he h0 h1⟩
theorem mark_yes (h : Fc.Good l N E F W R M) (he : Gr.err t n l = 0) {p d : Int} (h0 : 0 ≤ p) (h1 : p ≤ l.length) (ha : Fc.all E false (rest l p d) = true) : mark E F l p d = 4611686018427387904 + Fc.beg E F 0 (rest l p d) ∧ Fc.beg E F 0 (rest l p d) < 1073741824 := by
  have := mark_eq (E := E) (F := F) he (d := d) h0 h1
  have hb := base_30 h he (d := d) h0 h1
  rw [ha, if_pos rfl, or_pow (Nat.lt_of_lt_of_le hb (by decide))] at this
  exact ⟨this, hb⟩
theorem mark_lt (h : Fc.Good l N E F W R M) (he : Gr.err t n l = 0) {p d : Int} (h0 : 0 ≤ p) (h1 : p ≤ l.length) : mark E F l p d < 9223372036854775808 := by
  cases ha : Fc.all E false (rest l p d)
  · have := (mark_no h he h0 h1 ha).2; omega
  · have := mark_yes h he h0 h1 ha; omega
theorem look_lt (h : Fc.Good l N E F W R M) (he : Gr.err t n l = 0) {x : I} (hx : okI t l x) : look E F l x < 9223372036854775808 := by
  have hb := base_30 h he (d := x.2.1) hx.1 hx.2.1
  have ht := Gr.err_zero he
  have hk : x.2.2.toNat ≤ 30 := by have := hx.2.2.2.2; omega
  unfold look
  split
  · refine Nat.lt_of_lt_of_le (Nat.or_lt_two_pow (n := 31) (Nat.lt_of_lt_of_le hb (by decide)) (Nat.pow_lt_pow_right (by decide) (by omega))) (by decide)
  · exact Nat.lt_of_lt_of_le hb (by decide)
theorem look_bit (h : Fc.Good l N E F W R M) (he : Gr.err t n l = 0) {x : I} (hx : okI t l x) (k : Nat) : (look E F l x).testBit k = opens E F l x k := by
  unfold look opens
  have h5 := hx.2.2.2.2.1
  split
  · rename_i ha
    rw [ha, Nat.testBit_or, Nat.testBit_two_pow, Bool.true_and]
    congr 1
    rw [Bool.eq_iff_iff, decide_eq_true_iff, decide_eq_true_iff]; omega
  · rename_i ha
    rw [Bool.not_eq_true] at ha
    rw [ha, Bool.false_and, Bool.or_false]
/-- The reference's set. -/
def behind (t : Int) (x : I) : Nat := if x.2.2 < t then 2 ^ x.2.2.toNat else 9223372036854775808
theorem set_eq (he : Gr.err t n l = 0) {x : I} (hx : okI t l x) : Fc.beg E F (behind t x) (rest l x.1 x.2.1) = Fc.beg E F 0 (rest l x.1 x.2.1) ||| (if Fc.all E false (rest l x.1 x.2.1) = true then behind t x else 0) := beg_split _ _ (kinds he hx.1 hx.2.1)
theorem behind_lt (he : Gr.err t n l = 0) {x : I} (hx : okI t l x) : behind t x < 18446744073709551616 := by
  have ht := Gr.err_zero he
  have h5 := hx.2.2.2.2
  unfold behind
  split
  · exact Nat.lt_of_lt_of_le (Nat.pow_lt_pow_right (by decide : 1 < 2) (show x.2.2.toNat < 64 by omega)) (by decide)
  · decide
theorem set_lt (h : Fc.Good l N E F W R M) (he : Gr.err t n l = 0) {x : I} (hx : okI t l x) : Fc.beg E F (behind t x) (rest l x.1 x.2.1) < 18446744073709551616 := by
  rw [set_eq he hx]
  have hb := base_30 h he (d := x.2.1) hx.1 hx.2.1
  have hbh := behind_lt he hx
  refine Nat.lt_of_lt_of_le (Nat.or_lt_two_pow (n := 64) (Nat.lt_of_lt_of_le hb (by decide)) ?_) (by decide)
  split
  · exact Nat.lt_of_lt_of_le hbh (by decide)
  · decide
theorem set_low (h : Fc.Good l N E F W R M) (he : Gr.err t n l = 0) {x : I} (hx : okI t l x) {k : Nat} (hk : (k : Int) < t) : (Fc.beg E F (behind t x) (rest l x.1 x.2.1)).testBit k = opens E F l x k := by
  rw [set_eq he hx, Nat.testBit_or, opens]
  congr 1
  have ht := Gr.err_zero he
  have h5 := hx.2.2.2.2
  cases ha : Fc.all E false (rest l x.1 x.2.1)
  · rw [if_neg (by simp), Nat.zero_testBit, Bool.false_and]
  · rw [if_pos rfl, Bool.true_and]
    unfold behind
    split
    · rw [Nat.testBit_two_pow, Bool.eq_iff_iff, decide_eq_true_iff, decide_eq_true_iff]; omega
    · rw [show (9223372036854775808 : Nat) = 2 ^ 63 by decide, Nat.testBit_two_pow, Bool.eq_iff_iff, decide_eq_true_iff, decide_eq_true_iff]; omega
theorem set_top (h : Fc.Good l N E F W R M) (he : Gr.err t n l = 0) {x : I} (hx : okI t l x) {k : Nat} (hk : (k : Int) = t) : (Fc.beg E F (behind t x) (rest l x.1 x.2.1)).testBit 63 = opens E F l x k := by
  have ht := Gr.err_zero he
  have h5 := hx.2.2.2.2
  rw [set_eq he hx, Nat.testBit_or, opens, base_out h he hx.1 hx.2.1 (show t.toNat ≤ 63 by omega), base_out h he hx.1 hx.2.1 (show t.toNat ≤ k by omega), Bool.false_or, Bool.false_or]
  cases ha : Fc.all E false (rest l x.1 x.2.1)
  · rw [if_neg (by simp), Nat.zero_testBit, Bool.false_and]
  · rw [if_pos rfl, Bool.true_and]
    unfold behind
    split
    · rw [Nat.testBit_two_pow, Bool.eq_iff_iff, decide_eq_true_iff, decide_eq_true_iff]; omega
    · rw [show (9223372036854775808 : Nat) = 2 ^ 63 by decide, Nat.testBit_two_pow, Bool.eq_iff_iff, decide_eq_true_iff, decide_eq_true_iff]; omega
end
end It
end Go.Proofs.Ytkhjncbjdldpbaa

/-
  A block as a slice of one element. (A helper text; it claims nothing of the program.)
-/
namespace Go.Proofs.Ytkhjncbjdldpbaa
set_option linter.unusedVariables false
open Go.ChangeShapes Go.WideShapes Go.ChangeAt Go.RowKit

theorem St.celOwn1 {w0 w : World} {μ : List Asrt} {g : Nat} {e : TypeId} {size : Nat} {u : Value} (h : St w0 w (aCel g e u.cells :: μ)) (hs : u.cells.size = size) : St w0 w (aOwn e size (.slice (some ⟨g, 0, none⟩) 1 1) [u] :: μ) :=
  h.turn (by simp [aOwn, aCel, Value.ownBlock]) (by
    have hg : w.heap[g]? = some (.cells u.cells e (0, 0)) := h.ok _ (.head _)
    refine ⟨by simp [cellsOf, hs], .inr ⟨g, 1, u.cells, rfl, Nat.zero_le _, hg, by simp, by decide, by simpa using hs, ?_⟩⟩
    simp only [List.length_singleton, Nat.one_mul, cellsOf, List.flatMap_cons, List.flatMap_nil, List.append_nil]
    exact List.take_of_length_le (by rw [Array.length_toList, hs]; exact Nat.le_refl _))
end Go.Proofs.Ytkhjncbjdldpbaa

/-
  A production's body, the WHOLE's too: body of package items, BodyOf of the reference; what they hand back lives on.
-/
namespace Go.Proofs.Ytkhjncbjdldpbaa
set_option linter.unusedVariables false
set_option linter.unusedSimpArgs false
open Go.ChangeShapes Go.WideShapes Go.ChangeAt Go.RowKit

namespace It
/-- A body in hand. -/
def aBody (w0 : World) (fp : List Nat) (ao : Option Addr) (c : Nat) (b : List (Int × Int)) : Asrt := aRd (Enc.two.sl 16) w0 fp [.slice ao b.length c] b
/-- What a call for a body leaves. -/
def RetBd (l : List Fc.Pr) (p : Int) (w0 : World) (μ : List Asrt) (e : Ending) (w' : World) : Prop := ∃ (ao : Option Addr) (c : Nat) (fp : List Nat), e = .returned (.slice ao (body l p).length c) ∧ St w0 w' (aBody w0 fp ao c (body l p) :: μ)
end It

set_option maxRecDepth 100000 in
theorem itBody_st (wb : World) (t n : Int) (vp : Value) (l : List Fc.Pr) (hpr : Enc.prods.R (fun b => b < wb.heap.size) wb [vp] l) (hl : l.length ≤ 1000) (p : Int) (h0 : 0 ≤ p) (h1 : p ≤ l.length) (w0 w : World) (μ : List Asrt) (hbw : Below wb.heap.size wb w0) (hst : St w0 w μ) :
    Calls Try.prog 107 #[.agg #[.int .i64 t, .int .i64 n, vp], .int .i64 p] w (It.RetBd l p w0 μ) := by
  obtain ⟨ao, b, off, cap, rfl, -, k3, k4⟩ := slProds hpr
  by_cases hp : p = l.length
  · subst hp
    have hb : It.body l ((l.length : Nat) : Int) = [(2, 0)] := by rw [It.body, if_pos rfl]
    have hst2 := (hst.skip (.cells #[.int .i64 t, .int .i64 n, .slice ao l.length cap] 24)).alloc #[.int .i64 2, .int .i64 0] 61
    rw [show (w.alloc (.cells #[.int .i64 t, .int .i64 n, .slice ao l.length cap] 24)).heap.size = w.heap.size + 1 from World.size_alloc _ _] at hst2
    have hst3 := (St.celOwn1 (u := pairV (2, 0)) (size := 2) hst2 rfl).ownRd (En := Enc.two) (bytes := 16) (l := [(2, 0)]) (f := pairV) rfl (fun F W a ha => by rw [List.mem_singleton.1 ha]; exact two_mk (by decide) (by decide)) (by decide)
    have HE := Lib.hid hst3
    unfold It.RetBd It.aBody
    rw [hb]
    clear hpr k3 k4 hst hst2 hst3 hb h0 h1 hl hbw
    go_enter Try.func107, Try.ntmps107
    go_wp2
    go_ret
    exact ⟨_, _, _, rfl, HE.out⟩
  · obtain ⟨i, rfl⟩ := Int.eq_ofNat_of_zero_le h0
    have hi : i < l.length := by omega
    obtain ⟨rfl, hblt, -⟩ := k3 (by omega)
    obtain ⟨vb, e0, e1, e2, -⟩ := k4 i hi
    have hb : It.body l (i : Int) = (l.getD i (0, [])).2 := by rw [It.body, if_neg hp, Int.toNat_natCast]
    have hbel := hbw.trans (hst.bel.mono hbw.size)
    replace e1 := bkeep hbel e1
    obtain ⟨ab, bb, ob, cb, rfl, -, -, -⟩ := Enc.slN (0, 0) e2
    have hst2 := hst.skip (.cells #[.int .i64 t, .int .i64 n, .slice (some ⟨b, off, none⟩) l.length cap] 24)
    have hst3 := hst2.pushOld (E := Enc.two.sl 16) (F := fun q => q < wb.heap.size) (vs := [.slice ab (l.getD i (0, [])).2.length cb]) (l := (l.getD i (0, [])).2) (Enc.mono _ e2 (fun _ h => h) (fun q hq => hbw.block q hq)) (fun q hq => Nat.lt_of_lt_of_le hq hbw.size)
    have HE := Lib.hid hst3
    have hne : ((i : Int) == (l.length : Int)) = false := by rw [beq_eq_false_iff_ne]; omega
    have hiI : (i : Int) < (l.length : Int) := by omega
    have hiD : decide ((i : Int) < (l.length : Int)) = true := decide_eq_true hiI
    have blt := World.block_lt_of_cell? _ _ e1
    simp only at blt
    unfold It.RetBd It.aBody
    rw [hb]
    clear hpr k3 k4 e0 e2 hst hst2 hst3 hb h0 h1 hp hl hbw hbel
    generalize (l.getD i (0, [])).2 = bd at *
    go_enter Try.func107, Try.ntmps107
    go_wp2
    go_ret
    exact ⟨_, _, _, rfl, HE.out⟩

set_option maxRecDepth 100000 in
theorem rBody_st (wb : World) (t n : Int) (vp : Value) (l : List Fc.Pr) (hpr : Enc.prods.R (fun b => b < wb.heap.size) wb [vp] l) (hl : l.length ≤ 1000) (p : Int) (h0 : 0 ≤ p) (h1 : p ≤ l.length) (w0 w : World) (μ : List Asrt) (hbw : Below wb.heap.size wb w0) (hst : St w0 w μ) :
    Calls Try.prog 70 #[.agg #[.int .i64 t, .int .i64 n, vp], .int .i64 p] w (It.RetBd l p w0 μ) := by
  obtain ⟨ao, b, off, cap, rfl, -, k3, k4⟩ := slProds hpr
  by_cases hp : p = l.length
  · subst hp
    have hb : It.body l ((l.length : Nat) : Int) = [(2, 0)] := by rw [It.body, if_pos rfl]
    have hst2 := (hst.skip (.cells #[.int .i64 t, .int .i64 n, .slice ao l.length cap] 24)).alloc #[.int .i64 2, .int .i64 0] 61
    rw [show (w.alloc (.cells #[.int .i64 t, .int .i64 n, .slice ao l.length cap] 24)).heap.size = w.heap.size + 1 from World.size_alloc _ _] at hst2
    have hst3 := (St.celOwn1 (u := pairV (2, 0)) (size := 2) hst2 rfl).ownRd (En := Enc.two) (bytes := 16) (l := [(2, 0)]) (f := pairV) rfl (fun F W a ha => by rw [List.mem_singleton.1 ha]; exact two_mk (by decide) (by decide)) (by decide)
    have HE := Lib.hid hst3
    unfold It.RetBd It.aBody
    rw [hb]
    clear hpr k3 k4 hst hst2 hst3 hb h0 h1 hl hbw
    go_enter Try.func70, Try.ntmps70
    go_wp2
    go_ret
    exact ⟨_, _, _, rfl, HE.out⟩
  · obtain ⟨i, rfl⟩ := Int.eq_ofNat_of_zero_le h0
    have hi : i < l.length := by omega
    obtain ⟨rfl, hblt, -⟩ := k3 (by omega)
    obtain ⟨vb, e0, e1, e2, -⟩ := k4 i hi
    have hb : It.body l (i : Int) = (l.getD i (0, [])).2 := by rw [It.body, if_neg hp, Int.toNat_natCast]
    have hbel := hbw.trans (hst.bel.mono hbw.size)
    replace e1 := bkeep hbel e1
    obtain ⟨ab, bb, ob, cb, rfl, -, -, -⟩ := Enc.slN (0, 0) e2
    have hst2 := hst.skip (.cells #[.int .i64 t, .int .i64 n, .slice (some ⟨b, off, none⟩) l.length cap] 24)
    have hst3 := hst2.pushOld (E := Enc.two.sl 16) (F := fun q => q < wb.heap.size) (vs := [.slice ab (l.getD i (0, [])).2.length cb]) (l := (l.getD i (0, [])).2) (Enc.mono _ e2 (fun _ h => h) (fun q hq => hbw.block q hq)) (fun q hq => Nat.lt_of_lt_of_le hq hbw.size)
    have HE := Lib.hid hst3
    have hne : ((i : Int) == (l.length : Int)) = false := by rw [beq_eq_false_iff_ne]; omega
    have hiI : (i : Int) < (l.length : Int) := by omega
    have hiD : decide ((i : Int) < (l.length : Int)) = true := decide_eq_true hiI
    have blt := World.block_lt_of_cell? _ _ e1
    simp only at blt
    unfold It.RetBd It.aBody
    rw [hb]
    clear hpr k3 k4 e0 e2 hst hst2 hst3 hb h0 h1 hp hl hbw hbel
    generalize (l.getD i (0, [])).2 = bd at *
    go_enter Try.func70, Try.ntmps70
    go_wp2
    go_ret
    exact ⟨_, _, _, rfl, HE.out⟩
end Go.Proofs.Ytkhjncbjdldpbaa

/-
  cubeOf of the reference: nothing is marked.
-/
namespace Go.Proofs.Ytkhjncbjdldpbaa
set_option linter.unusedVariables false
set_option linter.unusedSimpArgs false
open Go.ChangeShapes Go.WideShapes Go.ChangeAt Go.RowKit

namespace Cube
theorem rowsE : ET Try.prog 109 52 1 24 := ET.mk' Try.underlying109 (z := .slice none 0 0) (by kernel_rfl) rfl (by decide)
theorem planesE : ET Try.prog 160 109 1 24 := ET.mk' Try.underlying160 (z := .slice none 0 0) (by kernel_rfl) rfl (by decide)
def blank (N : Nat) (rows : List Row) : Prop := ∀ r ∈ rows, r.2 = List.replicate N false
theorem getD_snoc {α : Type} {l : List α} {x d : α} {p : Nat} : (l ++ [x]).getD p d = if p = l.length then x else l.getD p d := by
  by_cases h : p = l.length
  · subst h; simp [List.getD]
  · rw [if_neg h]
    by_cases h2 : p < l.length
    · simp [List.getD, List.getElem?_append_left h2]
    · simp [List.getD, List.getElem?_eq_none (show (l ++ [x]).length ≤ p by simp; omega), List.getElem?_eq_none (show l.length ≤ p by omega)]
theorem shape_snoc {Q : List Pl} {i N : Nat} {hd : Nat → Nat} (h : Shape Q i hd N) {q : Pl} (hq : q.2.length = hd i) (hb : blank N q.2) : Shape (Q ++ [q]) (i + 1) hd N := by
  refine ⟨by rw [List.length_append, List.length_singleton, h.1], fun p hp => ?_⟩
  rw [getD_snoc, h.1]
  by_cases e : p = i
  · subst e
    rw [if_pos rfl]
    refine ⟨hq, fun d hd' => ?_⟩
    have := hb _ (memD (l := q.2) (i := d) (d := r0) (by omega))
    rw [this, List.length_replicate]
  · rw [if_neg e]; exact h.2 p (by omega)
theorem mark_snoc {Q : List Pl} {q : Pl} {N : Nat} (h : ∀ p d k, mark Q p d k = false) (hb : blank N q.2) : ∀ p d k, mark (Q ++ [q]) p d k = false := by
  intro p d k
  have h1 := h p d k
  unfold mark at *
  rw [getD_snoc]
  split
  · by_cases hd : d < q.2.length
    · rw [hb _ (memD (l := q.2) (i := d) (d := r0) hd)]
      rw [List.getD_eq_getElem?_getD, List.getElem?_replicate]; split <;> rfl
    · simp [List.getD, List.getElem?_eq_none (show q.2.length ≤ d by omega)]
  · exact h1
end Cube

set_option maxRecDepth 100000 in
set_option maxHeartbeats 8000000 in
theorem rCubeOf_any (wb : World) (t n : Int) (vp : Value) (l : List Fc.Pr) (hp : Enc.prods.R (fun b => b < wb.heap.size) wb [vp] l) (he : Gr.err t n l = 0) (w0 w : World) (μ : List Asrt) (hbw : Below wb.heap.size wb w0) (hst : St w0 w μ) :
    Calls Try.prog 81 #[.agg #[.int .i64 t, .int .i64 n, vp]] w fun e w' => ∃ (a : Option Addr) (nn c : Nat) (Q : List Cube.Pl), e = .returned (.slice a nn c) ∧ Cube.Shape Q (l.length + 1) (fun p => (It.body l (p : Int)).length + 1) (t.toNat + 1) ∧ (∀ p d k, Cube.mark Q p d k = false) ∧ St w0 w' (Cube.aCube (.slice a nn c) Q :: μ) := by
  have hz := Gr.err_zero he
  obtain ⟨ap, bp, op_, cp, rfl, -, -, -⟩ := slProds hp
  have hst1 := (((hst.alloc #[.int .i64 t, .int .i64 n, .slice ap l.length cp] 24).nilOwn 109 1).nilAll)
  have HST := Lib.hid (hst1.pick (ρ := aOwn 109 1 (.slice none 0 0) (([] : List Cube.Pl).map Cube.plV) :: aAll (([] : List Cube.Pl).map Cube.plA) :: aCel w.heap.size 24 #[.int .i64 t, .int .i64 n, .slice ap l.length cp] :: μ) [1, 0, 2] 3 rfl rfl)
  have HPR := Lib.hid hp; have HBW := Lib.hid hbw
  have HB8 := Lib.hid (fun (p : Int) (h0 : 0 ≤ p) (h1 : p ≤ l.length) => (It.body_right he h0 h1).1)
  have ht0 : 0 ≤ t := hz.1
  have ht30 : t ≤ 30 := hz.2.1
  have hl40 : l.length ≤ 40 := hz.2.2.2.2.1
  have hwt : IntKind.i64.wrap (t + 1) = t + 1 := IntWalk.i64_in _ (by omega)
  have HTT := Lib.hid (show ((t.toNat + 1 : Nat) : Int) = t + 1 by omega)
  clear hst hst1 hz he hp hbw
  go_enter Try.func81, Try.ntmps81
  go_wp2_with (fail)
  generalize w.alloc _ = w1 at HST ⊢
  generalize w.heap.size = gG at HST ⊢
  go_loopg [3, 4] (l.length + 1) (fun gk v3 v4 wr => ∃ (i : Nat) (Q : List Cube.Pl) (a : Option Addr) (nn c : Nat) (vw : Value), vw = v3 ∧ vw = .slice a nn c ∧ v4 = .int .i64 (i : Int) ∧ i ≤ l.length + 1 ∧ gk = l.length + 1 - i ∧ Hid (Cube.Shape Q i (fun p => (It.body l (p : Int)).length + 1) (t.toNat + 1) ∧ ∀ p d k, Cube.mark Q p d k = false) ∧ St w0 wr (aOwn 109 1 (.slice a nn c) (Q.map Cube.plV) :: aAll (Q.map Cube.plA) :: aCel gG 24 #[.int .i64 t, .int .i64 n, .slice ap l.length cp] :: μ))
  case atStart => exact ⟨0, [], none, 0, 0, _, rfl, rfl, rfl, Nat.zero_le _, rfl, Lib.hid ⟨⟨rfl, fun p hp => absurd hp (by omega)⟩, fun p d k => by simp [Cube.mark]⟩, HST.out⟩
  case round =>
    clear HST
    obtain ⟨i, Q, a, nn, c, vw, rfl, rfl, rfl, hi, hgk, HQ, hst⟩ := hrel
    have HGK := Lib.hid hgk
    have HS := Lib.hid hst
    clear hst hgk
    obtain ⟨g0, g1, g2⟩ := HS.out.at3 2 rfl
    by_cases hlt : i < l.length + 1
    · have hle : (i : Int) ≤ (l.length : Int) := by omega
      have hleD : decide ((i : Int) ≤ (l.length : Int)) = true := decide_eq_true hle
      have hb8 := HB8.out (i : Int) (by omega) hle
      have HQL := Lib.hid HQ.out.1.1
      go_wp2_with (fail)
      go_loopg [5, 6] ((It.body l (i : Int)).length + 2) (fun gk v5 v6 wr2 => ∃ (d : Nat) (rows : List Cube.Row) (a5 : Option Addr) (n5 c5 : Nat) (vu : Value), vu = v5 ∧ vu = .slice a5 n5 c5 ∧ v6 = .int .i64 (d : Int) ∧ d ≤ (It.body l (i : Int)).length + 1 ∧ gk = (It.body l (i : Int)).length + 2 - d ∧ Hid (rows.length = d ∧ Cube.blank (t.toNat + 1) rows) ∧ St w0 wr2 (aOwn 52 1 (.slice a5 n5 c5) (rows.map Cube.rowV) :: aAll (rows.map Cube.rowA) :: aOwn 109 1 (.slice a nn c) (Q.map Cube.plV) :: aAll (Q.map Cube.plA) :: aCel gG 24 #[.int .i64 t, .int .i64 n, .slice ap l.length cp] :: μ))
      case atStart => exact ⟨0, [], none, 0, 0, _, rfl, rfl, rfl, Nat.zero_le _, rfl, Lib.hid ⟨rfl, fun r hr => by cases hr⟩, ((HS.out.nilAll).nilOwn 52 1)⟩
      case round =>
        rename World => wp
        clear HS g0 g1 g2
        obtain ⟨d, rows, a5, n5, c5, vu, rfl, rfl, rfl, hd, hgk, HR, hst⟩ := hrel
        have HGK2 := Lib.hid hgk
        have HS := Lib.hid hst
        clear hst hgk
        obtain ⟨g0, g1, g2⟩ := HS.out.at3 4 rfl
        have HBD := Lib.hid (rBody_st wb t n (.slice ap l.length cp) l HPR.out (by omega) (i : Int) (by omega) hle w0 wp _ HBW.out HS.out)
        go_wp2_with (fail)
        go_at_call 70
        refine HBD.out.mono ?_
        rintro e w5 ⟨ab, cb, fp, rfl, hst5⟩
        have HS5 := Lib.hid hst5.drop
        clear hst5 HBD HS g0 g1 g2
        obtain ⟨g0, g1, g2⟩ := HS5.out.at3 4 rfl
        have hrl := HR.out.1
        have HRL := Lib.hid hrl
        by_cases hlt2 : d < (It.body l (i : Int)).length + 1
        · have hle2 : (d : Int) ≤ ((It.body l (i : Int)).length : Int) := by omega
          have hle2D : decide ((d : Int) ≤ ((It.body l (i : Int)).length : Int)) = true := decide_eq_true hle2
          clear hrl
          go_wp2_with (first
            | (refine St.make rfl (.tmp 25) rfl Try.underlying52 (z := .bool false) (bytes := 1) (by kernel_rfl) rfl HS5.out (t.toNat + 1) (by rw [HTT.out]; rfl) (by omega) (by decide) ?_; intro gR w6 hst6; have HS6 := Lib.hid (hst6.pick (ρ := aOwn 52 1 (.slice a5 n5 c5) (rows.map Cube.rowV) :: aAll (rows.map Cube.rowA) :: aOwn 4 1 (.slice (some ⟨gR, 0, none⟩) (t.toNat + 1) (t.toNat + 1)) (List.replicate (t.toNat + 1) (.bool false)) :: aOwn 109 1 (.slice a nn c) (Q.map Cube.plV) :: aAll (Q.map Cube.plA) :: aCel gG 24 #[.int .i64 t, .int .i64 n, .slice ap l.length cp] :: μ) [1, 2, 0, 3, 4, 5] 6 rfl rfl); clear hst6)
            | (at_builtin; refine St.app1n Cube.rowsE rfl (.tmp 22) (.tmp 27) rfl rfl HS6.out (.slice (some ⟨gR, 0, none⟩) (t.toNat + 1) (t.toNat + 1)) rfl _ 1 rfl (by simp) rfl (by intro q hq; simp [Value.cells] at hq; subst hq; rfl) (by rw [List.length_map]; have := HRL.out; unfold maxLen; omega) (by rw [List.length_map]; have := HRL.out; omega) ?_; intro g7 n7 c7 w7 hst7; have HS7 := Lib.hid hst7; clear hst7)
            | fail)
          have hrv : Cube.rowV (gR, List.replicate (t.toNat + 1) false) = .slice (some ⟨gR, 0, none⟩) (t.toNat + 1) (t.toNat + 1) := by simp [Cube.rowV]
          have hra : Cube.rowA (gR, List.replicate (t.toNat + 1) false) = aOwn 4 1 (.slice (some ⟨gR, 0, none⟩) (t.toNat + 1) (t.toNat + 1)) (List.replicate (t.toNat + 1) (.bool false)) := by simp [Cube.rowA, Cube.rowV]
          have HS8 := Lib.hid ((HS7.out.pick (ρ := aOwn 4 1 (.slice (some ⟨gR, 0, none⟩) (t.toNat + 1) (t.toNat + 1)) (List.replicate (t.toNat + 1) (.bool false)) :: aAll (rows.map Cube.rowA) :: aOwn 52 1 (.slice (some ⟨g7, 0, none⟩) n7 c7) (rows.map Cube.rowV ++ [.slice (some ⟨gR, 0, none⟩) (t.toNat + 1) (t.toNat + 1)]) :: aOwn 109 1 (.slice a nn c) (Q.map Cube.plV) :: aAll (Q.map Cube.plA) :: aCel gG 24 #[.int .i64 t, .int .i64 n, .slice ap l.length cp] :: μ) [2, 1, 0, 3, 4, 5] 6 rfl rfl).snoc)
          go_roundg ((It.body l (i : Int)).length + 2 - (d + 1))
          case measure => have := HGK2.out; omega
          case rel =>
            refine ⟨d + 1, rows ++ [(gR, List.replicate (t.toNat + 1) false)], some ⟨g7, 0, none⟩, n7, c7, _, rfl, rfl, by go_num, by omega, rfl, Lib.hid ⟨by rw [List.length_append, List.length_singleton, HRL.out], fun r hr => (List.mem_append.1 hr).elim (HR.out.2 r) (fun h => by rw [List.mem_singleton.1 h])⟩, ?_⟩
            rw [List.map_append, List.map_append, List.map_singleton, List.map_singleton, hrv, hra]
            exact HS8.out.pick [1, 0, 2, 3, 4] 5 rfl rfl
        · have hdl : d = (It.body l (i : Int)).length + 1 := by omega
          have hle2D : decide ((d : Int) ≤ ((It.body l (i : Int)).length : Int)) = false := decide_eq_false (by omega)
          have hle2f : ¬ ((d : Int) ≤ ((It.body l (i : Int)).length : Int)) := by omega
          obtain ⟨ao5, cap5, hv5⟩ := (HS5.out.ownAt 0 rfl).isLen
          rw [List.length_map] at hv5
          simp only [Value.slice.injEq] at hv5
          obtain ⟨rfl, rfl, rfl⟩ := hv5
          have HB2 := Lib.hid HR.out.2
          have HDL := Lib.hid (show rows.length = (It.body l (i : Int)).length + 1 by omega)
          have HSA := Lib.hid (HS5.out.pick (ρ := aOwn 109 1 (.slice a nn c) (Q.map Cube.plV) :: aOwn 52 1 (.slice a5 rows.length c5) (rows.map Cube.rowV) :: aAll (rows.map Cube.rowA) :: aAll (Q.map Cube.plA) :: aCel gG 24 #[.int .i64 t, .int .i64 n, .slice ap l.length cp] :: μ) [2, 0, 1, 3, 4] 5 rfl rfl)
          clear hrl hdl hlt2
          go_wp2_with (at_builtin; refine St.app1n Cube.planesE rfl (.tmp 29) (.tmp 31) rfl rfl HSA.out (.slice a5 rows.length c5) rfl _ 1 rfl (by simp) rfl (by intro q hq; simp [Value.cells] at hq; subst hq; rfl) (by rw [List.length_map]; have := HQL.out; unfold maxLen; omega) (by rw [List.length_map]; have := HQL.out; omega) ?_; intro g7 n7 c7 w7 hst7; have HS7 := Lib.hid hst7; clear hst7)
          have HS8 := Lib.hid ((HS7.out.pick (ρ := aOwn 52 1 (.slice a5 rows.length c5) (rows.map Cube.rowV) :: aAll (rows.map Cube.rowA) :: aAll (Q.map Cube.plA) :: aOwn 109 1 (.slice (some ⟨g7, 0, none⟩) n7 c7) (Q.map Cube.plV ++ [.slice a5 rows.length c5]) :: aCel gG 24 #[.int .i64 t, .int .i64 n, .slice ap l.length cp] :: μ) [1, 2, 3, 0, 4] 5 rfl rfl).pair.snoc)
          go_roundg (l.length + 1 - (i + 1))
          case measure => have := HGK.out; omega
          case rel =>
            refine ⟨i + 1, Q ++ [((a5, c5), rows)], some ⟨g7, 0, none⟩, n7, c7, _, rfl, rfl, by go_num, by omega, rfl, Lib.hid ⟨Cube.shape_snoc HQ.out.1 HDL.out HB2.out, Cube.mark_snoc HQ.out.2 HB2.out⟩, ?_⟩
            rw [List.map_append, List.map_append, List.map_singleton, List.map_singleton]
            exact HS8.out.pick [1, 0, 2] 3 rfl rfl
    · have hil : i = l.length + 1 := by omega
      have hleD : decide ((i : Int) ≤ (l.length : Int)) = false := decide_eq_false (by omega)
      have hlef : ¬ ((i : Int) ≤ (l.length : Int)) := by omega
      subst hil
      clear hlt
      go_wp2_with (fail)
      go_ret
      exact ⟨_, _, _, rfl, Q, HQ.out.1, HQ.out.2, (HS.out.pick (ρ := aOwn 109 1 (.slice a nn c) (Q.map Cube.plV) :: aAll (Q.map Cube.plA) :: μ) [0, 1] 3 rfl rfl).pair⟩
end Go.Proofs.Ytkhjncbjdldpbaa

/-
  Several makes in one drawn region: in whatever order, all of them are made. (A helper text; it claims nothing of the program.)
-/
namespace Go.Proofs.Ytkhjncbjdldpbaa
set_option linter.unusedVariables false
open Go.ChangeShapes Go.WideShapes Go.ChangeAt Go.RowKit

/-- One that makes a block: its number in the region, its slot, the value, the block, what is owned. -/
structure Mk where
  i : Nat
  d : Nat
  val : Nat → Value
  obj : Obj
  asrt : Nat → Asrt
namespace Mk
def asr (x : Mk × Nat) : Asrt := x.1.asrt x.2
def puts (a : Act) (l : List (Mk × Nat)) : Act := l.foldl (fun a x => a.put (some x.1.d) (x.1.val x.2)) a
/-- It does so whatever of the others is made already. -/
structure Does (P : Program) (ops : Array Oper) (all : List Mk) (a : Act) (m : Mk) : Prop where
  run : ∃ o, ops[m.i]? = some o ∧ o.dst = some m.d ∧ o.guard = none ∧ ∀ b : Act, (∀ s, (∀ m' ∈ all, m'.d ≠ s) → b.eval (.tmp s) = a.eval (.tmp s)) → ∀ w : World, (execOp b.eval o).run P w = .ok (.value (m.val w.heap.size)) (w.alloc m.obj)
  ok : ∀ w : World, (m.asrt w.heap.size).ok (w.alloc m.obj)
  fp : ∀ g, (m.asrt g).fp = [g]
/-- make([]T, n) -/
def make (i d n : Nat) (e : TypeId) (z : Value) : Mk := ⟨i, d, fun g => .slice (some ⟨g, 0, none⟩) n n, .cells (madeCells #[z] n) e, fun g => aOwn e 1 (.slice (some ⟨g, 0, none⟩) n n) (List.replicate n z)⟩
/-- A new block. -/
def cel (i d : Nat) (T : TypeId) (cs : Array Value) : Mk := ⟨i, d, fun g => .pointer (some ⟨g, 0, none⟩), .cells cs T, fun g => aCel g T cs⟩
def lst (l0 : Array Bool) (is : List Nat) : Array Bool := is.foldl (fun l i => l.setIfInBounds i true) l0
def subs : List Nat → List (List Nat)
  | [] => [[]]
  | x :: r => subs r ++ (subs r).map (x :: ·)
theorem filter_subs (p : Nat → Bool) (l : List Nat) : l.filter p ∈ subs l := by
  induction l with
  | nil => simp [subs]
  | cons x r ih =>
    rw [subs, List.mem_append, List.filter_cons]
    split
    · exact .inr (List.mem_map.2 ⟨_, ih, rfl⟩)
    · exact .inl ih
/-- Whatever is made already, those that may come up are the others; but where one stops. -/
def chk (ops : Array Oper) (l0 : Array Bool) (is : List Nat) (stops : List (List Nat)) : Bool :=
  stops.contains is && (subs is).all fun js => stops.contains js || decide (Region.ready .any ops (lst l0 js) = is.filter (fun i => !js.contains i))
theorem lst_perm {l0 : Array Bool} {is js : List Nat} (h : is.Perm js) : lst l0 is = lst l0 js := by
  unfold lst
  refine h.foldl_eq' (fun x _ y _ z => ?_) l0
  by_cases e : x = y
  · subst e; rfl
  · exact Array.setIfInBounds_comm _ _ e
theorem perm_lift {α β : Type} (f : α → β) : ∀ {m : List β} {l : List α}, (l.map f).Perm m → ∃ l', l.Perm l' ∧ l'.map f = m := by
  intro m
  induction m with
  | nil => intro l h; have := h.length_eq; simp at this; subst this; exact ⟨[], .nil, rfl⟩
  | cons x r ih =>
    intro l h
    obtain ⟨y, hy, rfl⟩ := List.mem_map.1 (h.mem_iff.2 (.head r))
    obtain ⟨s, t, rfl⟩ := List.append_of_mem hy
    have h2 : ((s ++ t).map f).Perm r := by
      have h3 : (f y :: (s ++ t).map f).Perm (f y :: r) := by
        refine List.Perm.trans ?_ h
        have := (List.perm_middle (l₁ := s) (l₂ := t) (a := y)).symm.map f
        simpa using this
      exact h3.cons_inv
    obtain ⟨l', h4, h5⟩ := ih h2
    exact ⟨y :: l', List.perm_middle.trans (h4.cons y), by rw [List.map_cons, h5]⟩
theorem inj_of {α β : Type} (f : α → β) {l : List α} (h : (l.map f).Nodup) {x y : α} (hx : x ∈ l) (hy : y ∈ l) (he : f x = f y) : x = y := by
  induction l with
  | nil => cases hx
  | cons a r ih =>
    rw [List.map_cons, List.nodup_cons] at h
    rcases List.mem_cons.1 hx with hx2 | hx2
    · rcases List.mem_cons.1 hy with hy2 | hy2
      · rw [hx2, hy2]
      · rw [hx2] at he
        exact absurd (List.mem_map.2 ⟨y, hy2, he.symm⟩) h.1
    · rcases List.mem_cons.1 hy with hy2 | hy2
      · rw [hy2] at he
        exact absurd (List.mem_map.2 ⟨x, hx2, he⟩) h.1
      · exact ih h.2 hx2 hy2
theorem puts_perm {a : Act} {l l' : List (Mk × Nat)} (h : l.Perm l') (hd : (l.map (·.1.d)).Nodup) : puts a l = puts a l' := by
  unfold puts
  refine h.foldl_eq' (fun x hx y hy z => ?_) a
  by_cases e : x.1.d = y.1.d
  · have := inj_of (fun x : Mk × Nat => x.1.d) hd hx hy e
    subst this; rfl
  · unfold Act.put
    simp only
    rw [Array.setIfInBounds_comm _ _ e]
theorem puts_eval {s : Nat} : ∀ {l : List (Mk × Nat)} {a : Act}, (∀ x ∈ l, x.1.d ≠ s) → (puts a l).eval (.tmp s) = a.eval (.tmp s) := by
  intro l
  induction l with
  | nil => intro a _; rfl
  | cons x r ih =>
    intro a h
    have h1 := ih (a := a.put (some x.1.d) (x.1.val x.2)) (fun y hy => h y (.tail _ hy))
    have h2 : (a.put (some x.1.d) (x.1.val x.2)).eval (.tmp s) = a.eval (.tmp s) := by
      have := h x (.head _)
      simp [Act.put, Act.eval, Array.getElem?_setIfInBounds_ne this]
    exact h1.trans h2
theorem does_make {P : Program} {ops : Array Oper} {all : List Mk} {a : Act} {i d n s : Nat} {t e : TypeId} {z : Value} {bytes : Nat} {o : Oper} (ho : ops[i]? = some o) (h1 : o.op = Op.makeSlice t (.tmp s) (.tmp s)) (h2 : o.dst = some d) (h3 : o.guard = none) (h4 : P.underlying t = some (.slice e))
    (h5 : (P.info? e).map (fun i => (i.zero, i.size, i.bytes)) = some (some z, 1, bytes)) (h6 : z.cells = #[z]) (h7 : 0 < bytes) (hn : (bytes : Int) * n ≤ 140737488355328) (h9 : a.eval (.tmp s) = .int .i64 (n : Int)) (h11 : (all.map (·.d)).contains s = false) : Does P ops all a (make i d n e z) := by
  have h10 : ∀ m' ∈ all, m'.d ≠ s := fun m' hm e => by
    rw [← Bool.not_eq_true, List.contains_iff_mem] at h11
    exact h11 (List.mem_map.2 ⟨m', hm, e⟩)
  have hn' : bytes * n ≤ 140737488355328 := by rw [← Int.natCast_mul] at hn; omega
  have hle : n ≤ bytes * n := Nat.le_mul_of_pos_left n h7
  refine ⟨⟨o, ho, h2, h3, fun b hb w => ?_⟩, fun w => own_mk w e z h6 n (by unfold maxLen; omega), fun g => rfl⟩
  have hrun := run_make_row' (P := P) t e z bytes h4 h5 h6 .i64 .i64 n (by omega) (by omega) w
  have hev := (hb s h10).trans h9
  simp [execOp, h1, hev, hrun, Result.andThen, make]
theorem does_cel {P : Program} {ops : Array Oper} {all : List Mk} {a : Act} {i d : Nat} {T : TypeId} {cs : Array Value} {o : Oper} (ho : ops[i]? = some o) (h2 : o.dst = some d) (h3 : o.guard = none) (hr : ∀ b : Act, ∀ w : World, (execOp b.eval o).run P w = .ok (.value (.pointer (some ⟨w.heap.size, 0, none⟩))) (w.alloc (.cells cs T))) : Does P ops all a (cel i d T cs) :=
  ⟨⟨o, ho, h2, h3, fun b _ w => hr b w⟩, fun w => heap_alloc_new _ _, fun g => rfl⟩
end Mk

theorem wpAny_makes {P : Program} {w0 : World} {μ : List Asrt} {ops : Array Oper} {Q : Exit → Act → World → Prop} (all : List Mk) (stops : List (List Nat)) (fuel : Nat) (l0 : Array Bool) (a : Act)
    (hck : Mk.chk ops l0 (all.map (·.i)) stops = true) (hdn : (all.map (·.d)).Nodup) (hin : (all.map (·.i)).Nodup) (hop : ∀ m ∈ all, Mk.Does P ops all a m)
    (hK : ∀ js ∈ stops, ∀ (k : Nat) (ds : List (Mk × Nat)), ds.map (·.1) = all.filter (fun m => js.contains m.i) → ds.length + k = all.length → ∀ w', St w0 w' (ds.map Mk.asr ++ μ) → wpAny P .any ops Q (k + fuel) (Mk.lst l0 (ds.map (·.1.i))) (Mk.puts a ds) w') :
    ∀ (k : Nat) (pend : List Mk) (done : List (Mk × Nat)) (w : World), pend.length = k → (done.map (·.1) ++ pend).Perm all → St w0 w (done.map Mk.asr ++ μ) → wpAny P .any ops Q (k + fuel) (Mk.lst l0 (done.map (·.1.i))) (Mk.puts a done) w := by
  unfold Mk.chk at hck
  rw [Bool.and_eq_true, List.all_eq_true] at hck
  obtain ⟨hfin, hck⟩ := hck
  intro k
  induction k with
  | zero =>
    intro pend done w hl hp hst
    have : pend = [] := List.eq_nil_of_length_eq_zero hl
    subst this
    rw [List.append_nil] at hp
    obtain ⟨ds, h1, h2⟩ := Mk.perm_lift (fun x : Mk × Nat => x.1) hp
    have hfa : all.filter (fun m => (all.map (·.i)).contains m.i) = all := by
      refine List.filter_eq_self.2 (fun m hm => ?_)
      rw [List.contains_iff_mem]
      exact List.mem_map.2 ⟨m, hm, rfl⟩
    have h3 := hK (all.map (·.i)) (by rw [List.contains_iff_mem] at hfin; exact hfin) 0 ds (by rw [hfa]; exact h2) (by have := congrArg List.length h2; simpa using this) w (hst.perm ((h1.map _).append_right μ))
    have hdd : (done.map (·.1.d)).Nodup := by
      have := (hp.map (·.d)).nodup_iff.2 hdn
      rw [List.map_map] at this
      exact this
    rw [Mk.puts_perm h1 hdd, Mk.lst_perm (h1.map (·.1.i))]
    exact h3
  | succ k ih =>
    intro pend done w hl hp hst
    obtain ⟨m0, r0, rfl⟩ : ∃ m r, pend = m :: r := by cases pend with | nil => simp at hl | cons m r => exact ⟨m, r, rfl⟩
    have hip := (hp.map (·.i)).nodup_iff.2 hin
    have hdp := (hp.map (·.d)).nodup_iff.2 hdn
    rw [List.map_append, List.map_map] at hip hdp
    have hgen : ∀ (p : Mk → Bool), (∀ x ∈ done, p x.1 = true) → (∀ m ∈ m0 :: r0, p m = false) → (all.filter p).Perm (done.map (·.1)) := by
      intro p h1 h2
      refine (hp.filter p).symm.trans ?_
      rw [List.filter_append]
      have h3 : (done.map (·.1)).filter p = done.map (·.1) := by
        refine List.filter_eq_self.2 (fun m hm => ?_)
        obtain ⟨x, hx, rfl⟩ := List.mem_map.1 hm
        exact h1 x hx
      have h4 : (m0 :: r0).filter p = [] := by
        rw [List.filter_eq_nil_iff]
        intro m hm
        rw [h2 m hm]; simp
      rw [h3, h4, List.append_nil]
    have hdc : ∀ x ∈ done, (done.map (·.1.i)).contains x.1.i = true := fun x hx => by rw [List.contains_iff_mem]; exact List.mem_map.2 ⟨x, hx, rfl⟩
    have hpc : ∀ m ∈ m0 :: r0, (done.map (·.1.i)).contains m.i = false := fun m hm => by
      rw [← Bool.not_eq_true, List.contains_iff_mem]
      intro hc
      rw [List.nodup_append] at hip
      exact hip.2.2 m.i hc m.i (List.mem_map.2 ⟨m, hm, rfl⟩) rfl
    have h1 := hck _ (Mk.filter_subs (fun i => (done.map (·.1.i)).contains i) (all.map (·.i)))
    have hfm : (all.map (·.i)).filter (fun i => (done.map (·.1.i)).contains i) = (all.filter (fun m => (done.map (·.1.i)).contains m.i)).map (·.i) := by rw [List.filter_map]; rfl
    have hperm : ((all.map (·.i)).filter (fun i => (done.map (·.1.i)).contains i)).Perm (done.map (·.1.i)) := by
      rw [hfm]
      have := (hgen _ hdc hpc).map (·.i)
      rw [List.map_map] at this
      exact this
    rw [Bool.or_eq_true, decide_eq_true_eq] at h1
    rcases h1 with h1 | h1
    · -- here one stops
      have hp1 := hgen (fun m => ((all.map (·.i)).filter (fun i => (done.map (·.1.i)).contains i)).contains m.i) (fun x hx => by
        rw [List.contains_iff_mem, hperm.mem_iff]
        exact List.mem_map.2 ⟨x, hx, rfl⟩) (fun m hm => by
        have := hpc m hm
        rw [← Bool.not_eq_true, List.contains_iff_mem] at this ⊢
        rw [hperm.mem_iff]
        exact this)
      obtain ⟨ds, h2, h3⟩ := Mk.perm_lift (fun x : Mk × Nat => x.1) hp1.symm
      have hdd : (done.map (·.1.d)).Nodup := by
        rw [List.nodup_append] at hdp
        exact hdp.1
      rw [Mk.puts_perm h2 hdd, Mk.lst_perm (h2.map (·.1.i))]
      refine hK _ (by rw [List.contains_iff_mem] at h1; exact h1) (k + 1) ds h3 ?_ w (hst.perm ((h2.map _).append_right μ))
      have e1 := hp.length_eq
      have e2 := h2.length_eq
      rw [List.length_append, List.length_map] at e1
      omega
    · rw [Mk.lst_perm hperm] at h1
      have hready : Region.ready .any ops (Mk.lst l0 (done.map (·.1.i))) = (all.map (·.i)).filter (fun i => !(done.map (·.1.i)).contains i) := by
        rw [h1]
        refine List.filter_congr (fun x hx => ?_)
        congr 1
        rw [Bool.eq_iff_iff, List.contains_iff_mem, List.contains_iff_mem, hperm.mem_iff]
      rw [Nat.succ_add, wpAny, hready]
      refine ⟨fun h0 => ?_, fun i hi => ?_⟩
      · exfalso
        rw [List.filter_eq_nil_iff] at h0
        have hm0 : m0 ∈ all := hp.mem_iff.1 (by simp)
        refine h0 m0.i (List.mem_map.2 ⟨m0, hm0, rfl⟩) ?_
        rw [hpc m0 (.head _)]; rfl
      · rw [List.mem_filter, List.mem_map] at hi
        obtain ⟨⟨m, hm, rfl⟩, hnc⟩ := hi
        rw [Bool.not_eq_true', ← Bool.not_eq_true, List.contains_iff_mem] at hnc
        have hmp : m ∈ m0 :: r0 := by
          rcases List.mem_append.1 (hp.mem_iff.2 hm) with h1 | h1
          · obtain ⟨x, hx, rfl⟩ := List.mem_map.1 h1
            exact absurd (List.mem_map.2 ⟨x, hx, rfl⟩) hnc
          · exact h1
        obtain ⟨s, t, hst2⟩ := List.append_of_mem hmp
        rw [hst2] at hp
        obtain ⟨⟨o, ho, h2, h3, hrun⟩, hok, hfp⟩ := hop m hm
        have hex := hrun (Mk.puts a done) (fun s hs => Mk.puts_eval (fun x hx => hs x.1 (hp.mem_iff.1 (List.mem_append.2 (.inl (List.mem_map.2 ⟨x, hx, rfl⟩)))))) w
        unfold wpOp
        simp only [ho]
        rw [if_pos (by simp [Region.wanted, h3])]
        refine .inl ?_
        unfold Oper.wp
        rw [hex]
        simp only [Oper.upon]
        have hst3 : St w0 (w.alloc m.obj) (Mk.asr (m, w.heap.size) :: (done.map Mk.asr ++ μ)) := by
          refine hst.push ((Below.refl _ _).alloc (Nat.le_refl _) _) (hok w) (fun b hb => ?_) (by show (m.asrt w.heap.size).fp.Nodup; rw [hfp]; simp)
          have hb2 : b ∈ (m.asrt w.heap.size).fp := hb
          rw [hfp] at hb2
          simp at hb2
          subst hb2
          simp
        have h11 := ih (s ++ t) (done ++ [(m, w.heap.size)]) (w.alloc m.obj) (by rw [hst2] at hl; simp at hl ⊢; omega) (by
          refine List.Perm.trans ?_ hp
          rw [List.map_append, List.append_assoc]
          refine List.Perm.append_left _ ?_
          show List.Perm (m :: (s ++ t)) (s ++ m :: t)
          exact List.perm_middle.symm) (by
          refine hst3.perm ?_
          rw [List.map_append, List.append_assoc]
          exact List.perm_middle.symm)
        have h12 : Mk.lst l0 ((done ++ [(m, w.heap.size)]).map (·.1.i)) = (Mk.lst l0 (done.map (·.1.i))).setIfInBounds m.i true := by simp [Mk.lst]
        have h13 : Mk.puts a (done ++ [(m, w.heap.size)]) = (Mk.puts a done).put o.dst (m.val w.heap.size) := by rw [h2]; simp [Mk.puts]
        rw [h12, h13] at h11
        exact h11
/-- All of them, from the start. -/
theorem St.makes {P : Program} {w0 w : World} {μ : List Asrt} {ops : Array Oper} {Q : Exit → Act → World → Prop} (all : List Mk) (stops : List (List Nat)) (fuel : Nat) {m : Nat} {l0 : Array Bool} {a : Act} (h : St w0 w μ) (hm : m = all.length + fuel)
    (hck : Mk.chk ops l0 (all.map (·.i)) stops = true) (hdn : decide (all.map (·.d)).Nodup = true) (hin : decide (all.map (·.i)).Nodup = true) (hop : ∀ m ∈ all, Mk.Does P ops all a m)
    (hK : ∀ js ∈ stops, ∀ (k : Nat) (ds : List (Mk × Nat)), ds.map (·.1) = all.filter (fun m => js.contains m.i) → ds.length + k = all.length → ∀ w', St w0 w' (ds.map Mk.asr ++ μ) → wpAny P .any ops Q (k + fuel) (Mk.lst l0 (ds.map (·.1.i))) (Mk.puts a ds) w') : wpAny P .any ops Q m l0 a w := by
  subst hm
  exact wpAny_makes all stops fuel l0 a hck (of_decide_eq_true hdn) (of_decide_eq_true hin) hop hK all.length all [] w rfl (List.Perm.refl _) h
/-- A list of pairs by its first parts. -/
theorem Mk.split {x : Mk} {r : List Mk} {ds : List (Mk × Nat)} (h : ds.map (·.1) = x :: r) : ∃ g ds', ds = (x, g) :: ds' ∧ ds'.map (·.1) = r := by
  cases ds with
  | nil => cases h
  | cons y ds => rw [List.map_cons, List.cons.injEq] at h; obtain ⟨m, g⟩ := y; obtain ⟨rfl, h2⟩ := h; exact ⟨g, ds, rfl, h2⟩
theorem Mk.done {ds : List (Mk × Nat)} (h : ds.map (·.1) = []) : ds = [] := by simpa using h
end Go.Proofs.Ytkhjncbjdldpbaa

/-
  A block written whole, read whole, handed back. (A helper text; it claims nothing of the program.)
-/
namespace Go.Proofs.Ytkhjncbjdldpbaa
set_option linter.unusedVariables false
open Go.ChangeShapes Go.WideShapes Go.ChangeAt Go.RowKit

theorem St.setRow {w0 w : World} {μ : List Asrt} {g : Nat} {T : TypeId} {cs : Array Value} (h : St w0 w (aCel g T cs :: μ)) (cs' : Array Value) : St w0 (w.setRow g cs') (aCel g T cs' :: μ) := by
  refine h.upd rfl rfl rfl (by simp) (fun b hb hm => ?_) (setRow_heap _ _ _ _ _ _ (h.ok _ (.head _))) (fun b hb => .inl hb) (by simp [aCel])
  exact setRow_other _ _ _ _ (fun e => hm (by simp [aCel, e]))
/-- A result that lies in a block, and one more beside it. -/
theorem results_row_tmp {P : Program} {fn : Func} {p u : Tmp} {ty : TypeId} (h : fn.results = #[.cell p ty, .tmp u]) (tmps : Array Value) (w : World) (g : Nat) (t : TypeId) (cs : Array Value) (d : TypeDesc)
    (hp : tmps.getD p undef = .pointer (some ⟨g, 0, none⟩)) (hg : w.heap[g]? = some (.cells cs t (0, 0))) (hu : P.underlying ty = some d) (hd : (match d with | .struct _ | .array _ _ => true | _ => false) = true) (hi : (P.info? ty).map (·.size) = some cs.size) :
    (results fn tmps).run P w = .ok (.tuple #[.agg cs, tmps.getD u undef]) w := by
  rw [results_cell_tmp h, hp]
  simp [asAddr, run_loadVar_row w g t ty cs (0, 0) d hg hu hd hi, Result.andThen]
theorem results_row {P : Program} {fn : Func} {p : Tmp} {ty : TypeId} (h : fn.results = #[.cell p ty]) (tmps : Array Value) (w : World) (g : Nat) (t : TypeId) (cs : Array Value) (d : TypeDesc)
    (hp : tmps.getD p undef = .pointer (some ⟨g, 0, none⟩)) (hg : w.heap[g]? = some (.cells cs t (0, 0))) (hu : P.underlying ty = some d) (hd : (match d with | .struct _ | .array _ _ => true | _ => false) = true) (hi : (P.info? ty).map (·.size) = some cs.size) :
    (results fn tmps).run P w = .ok (.agg cs) w := results_cell_row h tmps w g t cs (0, 0) d hp hg hu hd hi
/-- A block written whole. -/
theorem St.rowOp {P : Program} {w0 w : World} {μ : List Asrt} {ops : Array Oper} {rest : List Oper} {o : Oper} {a : Act} {Q : Exit → Act → World → Prop} {T : TypeId} {old : Array Value} (hgd : o.guard = none) (ty : TypeId) (x y : Operand) (ho : o.op = .store ty x y) (g : Nat) (cells : Array Value) (hx : a.eval x = .pointer (some ⟨g, 0, none⟩)) (hy : a.eval y = .agg cells)
    (h : St w0 w (aCel g T old :: μ)) (hi : (P.info? ty).map (·.size) = some cells.size) (hold : old.size = cells.size) (h1 : cells.all (·.oneCell') = true)
    (hK : ∀ w', St w0 w' (aCel g T cells :: μ) → wpList P ops Q rest (a.put o.dst undef) w') : wpList P ops Q (o :: rest) a w :=
  wpList_store_row hgd ty x y ho g cells hx hy T old (h.ok _ (.head _)) hi hold h1 (hK _ (h.setRow cells))
/-- A block read whole. -/
theorem St.rowIn {P : Program} {w0 w : World} {μ : List Asrt} {ops : Array Oper} {rest : List Oper} {o : Oper} {a : Act} {Q : Exit → Act → World → Prop} {T : TypeId} {cs : Array Value} (hgd : o.guard = none) (ty : TypeId) (x : Operand) (ho : o.op = .load ty x) (g : Nat) (hx : a.eval x = .pointer (some ⟨g, 0, none⟩)) (d : TypeDesc)
    (h : St w0 w μ) (i : Nat) (hA : μ[i]? = some (aCel g T cs)) (hu : P.underlying ty = some d) (hd : (match d with | .struct _ | .array _ _ => true | _ => false) = true) (hi : (P.info? ty).map (·.size) = some cs.size)
    (hK : wpList P ops Q rest (a.put o.dst (.agg cs)) w) : wpList P ops Q (o :: rest) a w :=
  wpList_load_row hgd ty x ho g hx T cs (0, 0) d (h.heapAt i hA) hu hd hi hK
/-- make([]T, n) at a step of a region that draws its order. -/
theorem St.stepMake {P : Program} {w0 w : World} {μ : List Asrt} {ops : Array Oper} {o : Oper} {a : Act} {K : Act → World → Prop} {Q : Exit → Act → World → Prop} {EE : Prop} {t e : TypeId} {bytes : Nat} {z : Value} (hgd : o.guard = none) (l : Operand) (hop : o.op = Op.makeSlice t l l)
    (ht : P.underlying t = some (.slice e)) (hi : (P.info? e).map (fun i => (i.zero, i.size, i.bytes)) = some (some z, 1, bytes)) (hz : z.cells = #[z]) (h : St w0 w μ) (n : Nat) (hl : a.eval l = .int .i64 (n : Int)) (hn : (bytes : Int) * n ≤ 140737488355328) (hb : 0 < bytes)
    (hK : ∀ g w', St w0 w' (aOwn e 1 (.slice (some ⟨g, 0, none⟩) n n) (List.replicate n z) :: μ) → K (a.put o.dst (.slice (some ⟨g, 0, none⟩) n n)) w') : if Region.wanted o (yielded ops a.tmps) = true then Oper.wp P o a w K Q else EE := by
  have hw : Region.wanted o (yielded ops a.tmps) = true := by simp [Region.wanted, hgd]
  rw [if_pos hw]
  have hn' : bytes * n ≤ 140737488355328 := by rw [← Int.natCast_mul] at hn; omega
  have hle : n ≤ bytes * n := Nat.le_mul_of_pos_left n hb
  have hrun := run_make_row' (P := P) t e z bytes ht hi hz .i64 .i64 n (by omega) (by omega) w
  unfold Oper.wp execOp
  simp only [hop, hl, Sem.run_bind, hrun, Result.andThen_ok, Sem.run_pure]
  refine hK w.heap.size _ ?_
  refine h.push ((Below.refl _ _).alloc (Nat.le_refl _) _) (own_mk w e z hz n (by unfold maxLen; omega)) (fun b hb => ?_) (by simp [aOwn, Value.ownBlock])
  simp [aOwn, Value.ownBlock] at hb
  subst hb
  simp
/-- A new block at such a step. -/
theorem St.stepNew {P : Program} {w0 w : World} {μ : List Asrt} {ops : Array Oper} {o : Oper} {a : Act} {K : Act → World → Prop} {Q : Exit → Act → World → Prop} {EE : Prop} {T : TypeId} {cs : Array Value} (hgd : o.guard = none) (hr : ∀ u : World, (execOp a.eval o).run P u = .ok (.value (.pointer (some ⟨u.heap.size, 0, none⟩))) (u.alloc (.cells cs T)))
    (h : St w0 w μ) (hK : ∀ g w', St w0 w' (aCel g T cs :: μ) → K (a.put o.dst (.pointer (some ⟨g, 0, none⟩))) w') : if Region.wanted o (yielded ops a.tmps) = true then Oper.wp P o a w K Q else EE := by
  have hw : Region.wanted o (yielded ops a.tmps) = true := by simp [Region.wanted, hgd]
  rw [if_pos hw]
  unfold Oper.wp
  rw [hr w]
  exact hK _ _ (h.alloc cs T)
/-- A block written whole at such a step. -/
theorem St.stepRow {P : Program} {w0 w : World} {μ : List Asrt} {ops : Array Oper} {o : Oper} {a : Act} {K : Act → World → Prop} {Q : Exit → Act → World → Prop} {EE : Prop} {T : TypeId} {old : Array Value} (hgd : o.guard = none) (ty : TypeId) (x y : Operand) (ho : o.op = .store ty x y) (g : Nat) (cells : Array Value) (hx : a.eval x = .pointer (some ⟨g, 0, none⟩)) (hy : a.eval y = .agg cells)
    (h : St w0 w (aCel g T old :: μ)) (hi : (P.info? ty).map (·.size) = some cells.size) (hold : old.size = cells.size) (h1 : cells.all (·.oneCell') = true)
    (hK : ∀ w', St w0 w' (aCel g T cells :: μ) → K (a.put o.dst undef) w') : if Region.wanted o (yielded ops a.tmps) = true then Oper.wp P o a w K Q else EE := by
  have hw : Region.wanted o (yielded ops a.tmps) = true := by simp [Region.wanted, hgd]
  rw [if_pos hw]
  exact wp_store_row ty x y ho g cells hx hy T old (h.ok _ (.head _)) hi hold h1 (hK _ (h.setRow cells))
end Go.Proofs.Ytkhjncbjdldpbaa

/-
  A map that the call made, among what the call owns. (A helper text; it claims nothing of the program.)
-/
namespace Go.Proofs.Ytkhjncbjdldpbaa
set_option linter.unusedVariables false
open Go.ChangeShapes Go.WideShapes Go.ChangeAt Go.RowKit

/-- Block b is a map of at most n entries that reads as D; its elements are of the plain type e. -/
def aMap (k e : TypeId) (b n : Nat) (D : DataW Unit) : Asrt where
  fp := [b]
  ok := fun w => w.ownsMap Try.prog k (plainElem Try.prog e) b n D
  loc := fun w w' hb h => by
    obtain ⟨es, clock, h1, h2⟩ := h
    exact ⟨es, clock, (hb b (by simp)).trans h1, h2⟩
section
variable {w0 w w' : World} {μ : List Asrt} {k e : TypeId} {b n : Nat} {D D' : DataW Unit}
theorem St.mapOwn (h : St w0 w (aMap k e b n D :: μ)) : w.ownsMap Try.prog k (plainElem Try.prog e) b n D := h.ok _ (.head _)
/-- make(map[K]E). -/
theorem St.makeMap (h : St w0 w μ) (k e : TypeId) : St w0 (w.alloc (.map #[] 0)) (aMap k e w.heap.size 0 (.map []) :: μ) :=
  h.push ((Below.refl _ _).alloc (Nat.le_refl _) _) (World.ownsMap_made w Try.prog k _) (fun x hx => by simp [aMap] at hx; subst hx; simp) (by simp [aMap])
/-- m[k] = v, behind the kit's law. -/
theorem St.mapPut (h : St w0 w (aMap k e b n D :: μ)) (ho : w'.ownsMap Try.prog k (plainElem Try.prog e) b (n + 1) D') (hg : w.grownBy w' (some b)) : St w0 w' (aMap k e b (n + 1) D' :: μ) := by
  refine h.upd hg.os hg.tape hg.output hg.size (fun x hx hm => ?_) ho (fun x hx => .inl hx) (by simp [aMap])
  exact hg.block x hx (fun he => hm (by simp [aMap]; exact (Option.some.inj he)))
theorem St.mapMono (h : St w0 w (aMap k e b n D :: μ)) {m : Nat} (hm : n ≤ m) : St w0 w (aMap k e b m D :: μ) := h.turn rfl (h.mapOwn.mono hm)
end
end Go.Proofs.Ytkhjncbjdldpbaa

/-
  Arrays of numbers as keys of a map. (A helper text; it claims nothing of the program.)
-/
namespace Go.Proofs.Ytkhjncbjdldpbaa
set_option linter.unusedVariables false
open Go.ChangeShapes Go.WideShapes Go.ChangeAt Go.RowKit

theorem mapM_some {α β : Type} {f : α → Option β} : ∀ (l : List α), (∀ a ∈ l, ∃ b, f a = some b) → ∃ bs, l.mapM f = some bs := by
  intro l
  induction l with
  | nil => intro _; exact ⟨[], rfl⟩
  | cons a l ih =>
    intro h
    obtain ⟨b, hb⟩ := h a (.head _)
    obtain ⟨bs, hbs⟩ := ih (fun x hx => h x (.tail _ hx))
    exact ⟨b :: bs, by rw [List.mapM_cons, hb, hbs]; rfl⟩
/-- An array of numbers reads as a key. -/
theorem arr_key {P : Program} {k e : TypeId} {n : Nat} {q : IntKind} (A : WideMaps.ArrKey P k e n) (he : P.underlying e = some (.int q)) (hsz : ∃ m, P.types.size = m + 1) (xs : List Int) (hn : xs.length = n) (hw : ∀ x ∈ xs, (Lit.int q x).wf = true) :
    ∃ kl, keyOf P k (.agg (xs.map (Value.int q)).toArray) = some kl := by
  have hkt := A.keyType hsz
  obtain ⟨m, hm⟩ := hsz
  unfold keyOf
  simp only [A.hu]
  rw [if_pos (by simp [hkt, Value.formed, A.hu, A.size, hn]), hm]
  unfold Program.keyLits
  simp only [A.hu, Value.cells]
  rw [if_pos (by rw [A.size]; simp [hn])]
  obtain ⟨bs, hbs⟩ := mapM_some (f := fun i => P.keyLits (m + 1) e (((xs.map (Value.int q)).toArray.toList.drop (i * P.cellsOf e)).take (P.cellsOf e))) (List.range n) (fun i hi => by
    have hi2 : i < xs.length := by rw [hn]; exact List.mem_range.1 hi
    refine ⟨[.int q xs[i]], ?_⟩
    rw [A.one, Nat.mul_one, List.drop_eq_getElem_cons (by simpa using hi2)]
    simp only [List.take_succ_cons, List.take_zero]
    unfold Program.keyLits
    simp [he, hw xs[i] (List.getElem_mem hi2)])
  rw [hbs]
  exact ⟨_, rfl⟩
end Go.Proofs.Ytkhjncbjdldpbaa

/-
  A map that the call made, as a list of keys with their numbers, the newest first. (A helper text; it claims nothing of the program.)
-/
namespace Go.Proofs.Ytkhjncbjdldpbaa
set_option linter.unusedVariables false
open Go.ChangeShapes Go.WideShapes Go.ChangeAt Go.RowKit

/-- The number at a key, 0 where there is none. -/
def numAt {κ : Type} [DecidableEq κ] (L : List (κ × Int)) (c : κ) : Int := match L.find? (fun p => decide (p.1 = c)) with
  | some p => p.2
  | none => 0
def hasAt {κ : Type} [DecidableEq κ] (L : List (κ × Int)) (c : κ) : Bool := L.any (fun p => decide (p.1 = c))
/-- D tells of L. -/
def Tells {κ : Type} [DecidableEq κ] (k : TypeId) (kv : κ → Value) (D : DataW Unit) (L : List (κ × Int)) : Prop :=
  Maps.Tidy D ∧ ∀ c kl, keyOf Try.prog k (kv c) = some kl → Maps.has D kl = hasAt L c ∧ D.atKey kl (.lit (.int .i64 0)) = .lit (.int .i64 (numAt L c))
section
variable {κ : Type} [DecidableEq κ] {k : TypeId} {kv : κ → Value} {D : DataW Unit} {L : List (κ × Int)}
theorem Tells.nil : Tells k kv (.map [] : DataW Unit) ([] : List (κ × Int)) := ⟨Maps.tidy_empty, fun _ _ _ => ⟨rfl, rfl⟩⟩
theorem Tells.put (h : Tells k kv D L) (K : Maps.Keyed Try.prog k) (hinj : ∀ a b, kv a = kv b → a = b) {c : κ} {kl : Lit} (hc : keyOf Try.prog k (kv c) = some kl) (x : Int) : Tells k kv (D.put kl (.lit (.int .i64 x))) ((c, x) :: L) := by
  refine ⟨h.1.put (K.key hc) _, fun c' kl' hc' => ?_⟩
  by_cases he : c = c'
  · subst he
    rw [hc] at hc'
    cases hc'
    refine ⟨?_, ?_⟩
    · rw [Maps.has_put_same h.1.isMap (K.key hc)]; simp [hasAt]
    · rw [Maps.atKey_put_same h.1.isMap (K.key hc)]; simp [numAt]
  · have hne : kl' ≠ kl := by
      rintro rfl
      exact he (hinj _ _ (K.inj hc hc'))
    obtain ⟨h1, h2⟩ := h.2 c' kl' hc'
    refine ⟨?_, ?_⟩
    · rw [Maps.has_put_other hne, h1]; simp [hasAt, he]
    · rw [Maps.atKey_put_other hne, h2]; simp [numAt, he]
theorem Tells.size_new (h : Tells k kv D L) {c : κ} {kl : Lit} (hc : keyOf Try.prog k (kv c) = some kl) (hn : hasAt L c = false) (x : Int) : Maps.size (D.put kl (.lit (.int .i64 x))) = Maps.size D + 1 := by
  rw [Maps.size_put h.1, (h.2 c kl hc).1, hn]; simp
end
end Go.Proofs.Ytkhjncbjdldpbaa
