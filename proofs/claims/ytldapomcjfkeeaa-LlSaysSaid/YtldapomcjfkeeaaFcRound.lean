/-
  round of package facts.
-/
import Derived.Test.YtldapomcjfkeeaaFcBeg
import Derived.Test.YtldapomcjfkeeaaFcProg
import Derived.Deep.RegionHeld3
namespace Go.Proofs.Ytldapomcjfkeeaa
set_option linter.unusedVariables false
set_option linter.unusedSimpArgs false
open Go.ChangeShapes Go.WideShapes Go.ChangeAt Go.RowKit

theorem St.get6 {w0 w : World} {μ : List Asrt} {A B C D E F : Asrt} (h : St w0 w (A :: B :: C :: D :: E :: F :: μ)) : St w0 w (F :: A :: B :: C :: D :: E :: μ) :=
  h.perm (by
    have := (List.perm_middle (l₁ := [A, B, C, D, E]) (l₂ := μ) (a := F))
    simpa using this)
theorem St.at5 {w0 w : World} {μ : List Asrt} {g : Nat} {T : TypeId} {v0 v1 v2 v3 v4 : Value} (h : St w0 w μ) (i : Nat) (hA : μ[i]? = some (aCel g T #[v0, v1, v2, v3, v4])) :
    w.cell? ⟨g, 0, none⟩ = some v0 ∧ w.cell? ⟨g, 1, none⟩ = some v1 ∧ w.cell? ⟨g, 2, none⟩ = some v2 ∧ w.cell? ⟨g, 3, none⟩ = some v3 ∧ w.cell? ⟨g, 4, none⟩ = some v4 :=
  ⟨(h.nth i hA).celAt rfl, (h.nth i hA).celAt rfl, (h.nth i hA).celAt rfl, (h.nth i hA).celAt rfl, (h.nth i hA).celAt rfl⟩
namespace Fc
theorem set1_self {X : List Bool} {h q : Nat} {b : Bool} (hb : X.getD h false = b) (hq : q < X.length) : (set1 X q b).getD h false = b := by
  rw [set1_get _ hq, hb]; cases b <;> simp
/-- A production within n nonterminals. -/
def okP (n : Nat) (p : Pr) : Prop := 0 ≤ p.1 ∧ p.1 < n ∧ ∀ x ∈ p.2, (x.1 = 1 ∧ 0 ≤ x.2 ∧ x.2 < 63) ∨ (x.1 = 2 ∧ 0 ≤ x.2 ∧ x.2 < n)
end Fc

set_option maxRecDepth 100000 in
set_option maxHeartbeats 1600000 in
theorem fcRound_any (w0 w : World) (t n : Int) (vp vF vW : Value) (l : List Fc.Pr) (N gE nE cE gM nM cM gR nR cR : Nat) (E M R : List Bool) (μ : List Asrt) (F : Nat → Prop) (hp : Enc.prods.R F w0 [vp] l) (hl : l.length ≤ 40) (hok : ∀ p ∈ l, Fc.okP N p) (hE : E.length = N) (hM : M.length = N) (hR : R.length = N) (hnE : nE = N) (hnM : nM = N) (hnR : nR = N)
    (hst : St w0 w (Fc.aB (.slice (some ⟨gR, 0, none⟩) nR cR) R :: Fc.aB (.slice (some ⟨gM, 0, none⟩) nM cM) M :: Fc.aB (.slice (some ⟨gE, 0, none⟩) nE cE) E :: μ)) :
    Calls Try.prog 104 #[.agg #[.int .i64 t, .int .i64 n, vp], .agg #[.slice (some ⟨gE, 0, none⟩) nE cE, vF, vW, .slice (some ⟨gR, 0, none⟩) nR cR, .slice (some ⟨gM, 0, none⟩) nM cM]] w fun e w' => ∃ m, e = .returned (.bool m) ∧ Fc.Prog (E, M, R) (Fc.rdA false l E, Fc.rdA true l M, Fc.rdR l R) m ∧
      St w0 w' (Fc.aB (.slice (some ⟨gR, 0, none⟩) nR cR) (Fc.rdR l R) :: Fc.aB (.slice (some ⟨gM, 0, none⟩) nM cM) (Fc.rdA true l M) :: Fc.aB (.slice (some ⟨gE, 0, none⟩) nE cE) (Fc.rdA false l E) :: μ) := by
  obtain ⟨ap, bp, op, cp, rfl, -, p3, p4⟩ := slProds hp
  have P3 := Lib.hid p3; have P4 := Lib.hid p4; have HOK := Lib.hid hok; have HE := Lib.hid hE; have HM := Lib.hid hM; have HR := Lib.hid hR; have HNE := Lib.hid hnE; have HNM := Lib.hid hnM; have HNR := Lib.hid hnR
  have hst1 := ((hst.alloc #[.int .i64 t, .int .i64 n, .slice ap l.length cp] 68).alloc #[.slice (some ⟨gE, 0, none⟩) nE cE, vF, vW, .slice (some ⟨gR, 0, none⟩) nR cR, .slice (some ⟨gM, 0, none⟩) nM cM] 88).get5.get5.get5
  simp only [World.size_alloc] at hst1
  have HST := Lib.hid hst1
  clear hst hst1 hp p3 p4 hok hE hM hR hnE hnM hnR
  go_enter Try.func104, Try.ntmps104
  go_wp2
  go_loopg [5, 13] l.length (fun gk mv i wr => ∃ (k : Nat) (m : Bool), k ≤ l.length ∧ gk = l.length - k ∧ i = .int .i64 k ∧ mv = .bool m ∧ St w0 wr (Fc.aB (.slice (some ⟨gR, 0, none⟩) nR cR) (Fc.rdR (l.take k) R) :: Fc.aB (.slice (some ⟨gM, 0, none⟩) nM cM) (Fc.rdA true (l.take k) M) :: Fc.aB (.slice (some ⟨gE, 0, none⟩) nE cE) (Fc.rdA false (l.take k) E) :: aCel (w.heap.size + 1) 88 #[.slice (some ⟨gE, 0, none⟩) nE cE, vF, vW, .slice (some ⟨gR, 0, none⟩) nR cR, .slice (some ⟨gM, 0, none⟩) nM cM] :: aCel w.heap.size 68 #[.int .i64 t, .int .i64 n, .slice ap l.length cp] :: μ) ∧ Hid (Fc.Prog (E, M, R) (Fc.rdA false (l.take k) E, Fc.rdA true (l.take k) M, Fc.rdR (l.take k) R) m))
  case atStart => exact ⟨0, false, by omega, by omega, rfl, rfl, HST.out, Lib.hid (Fc.Prog.refl _)⟩
  case round =>
    rename World => wo
    clear HST
    obtain ⟨k, m, hk, hgk, rfl, rfl, hst, HPG⟩ := hrel
    have HGK := Lib.hid hgk
    clear hgk
    by_cases hlt : k < l.length
    · have hsE := Fc.rdA_step (terms := false) (X := E) hlt
      have hsM := Fc.rdA_step (terms := true) (X := M) hlt
      have hsR := Fc.rdR_step (X := R) hlt
      have hlE := Fc.rdA_len (terms := false) (l := l.take k) (X := E)
      have hlM := Fc.rdA_len (terms := true) (l := l.take k) (X := M)
      have hlR := Fc.rdR_len (l := l.take k) (X := R)
      rw [HE.out] at hlE
      rw [HM.out] at hlM
      rw [HR.out] at hlR
      obtain ⟨rfl, _, _⟩ := P3.out (by omega)
      obtain ⟨vb, s1, s2, hbody, -⟩ := P4.out k hlt
      have hokp := HOK.out (l.getD k (0, [])) (by rw [show l.getD k (0, []) = l[k] by simp [List.getD, List.getElem?_eq_getElem hlt]]; exact List.getElem_mem hlt)
      generalize l.getD k (0, []) = p at *
      obtain ⟨h0, body⟩ := p
      simp only at s1 s2 hbody hsE hsM hsR
      obtain ⟨hp0, hp1, hpb⟩ := hokp
      simp only at hp0 hp1 hpb
      obtain ⟨h, rfl⟩ := Int.eq_ofNat_of_zero_le hp0
      rw [Int.toNat_natCast] at hsE hsM hsR
      have HSE := Lib.hid hsE; have HSM := Lib.hid hsM; have HSR := Lib.hid hsR; have HBODY := Lib.hid hbody; have HPB := Lib.hid hpb
      generalize Fc.rdA false (l.take k) E = Ek at *
      generalize Fc.rdA true (l.take k) M = Mk at *
      generalize Fc.rdR (l.take k) R = Rk at *
      have HLE := Lib.hid hlE; have HLM := Lib.hid hlM; have HLR := Lib.hid hlR
      have hlt2 : (k : Int) < l.length := by omega
      have s1 := bkeep hst.bel s1
      have s2 := bkeep hst.bel s2
      obtain ⟨ab, bb, ob, cb, rfl, hbl, b3, b4⟩ := slTwo hbody
      have B3 := Lib.hid b3; have B4 := Lib.hid b4
      have hbl2 : (body.length : Int) ≤ 140737488355328 := by omega
      have HST := Lib.hid ((hst.alloc #[.int .i64 h, .slice ab body.length cb] 186).get4)
      obtain ⟨B1, hB1⟩ : ∃ B1, Fc.all Ek false body = B1 := ⟨_, rfl⟩
      obtain ⟨B2, hB2⟩ : ∃ B2, Fc.all Mk true body = B2 := ⟨_, rfl⟩
      obtain ⟨M1, hM1⟩ : ∃ M1, (B1 && !Ek.getD h false) = M1 := ⟨_, rfl⟩
      obtain ⟨M2, hM2⟩ : ∃ M2, (B2 && !Mk.getD h false) = M2 := ⟨_, rfl⟩
      have HALL1 := Lib.hid fun W μ hs => fcAll_any w0 W gE nE cE Ek false (.slice ab body.length cb) body μ F (by rw [HNE.out, hlE]) hbody (fun x hx => by rw [hlE]; rcases hpb x hx with ⟨a, b, c⟩ | ⟨a, b, c⟩; exact .inl ⟨a, b⟩; exact .inr ⟨a, b, c⟩) (hst := hs)
      have HALL2 := Lib.hid fun W μ hs => fcAll_any w0 W gM nM cM Mk true (.slice ab body.length cb) body μ F (by rw [HNM.out, hlM]) hbody (fun x hx => by rw [hlM]; rcases hpb x hx with ⟨a, b, c⟩ | ⟨a, b, c⟩; exact .inl ⟨a, b⟩; exact .inr ⟨a, b, c⟩) (hst := hs)
      have HMK1 := Lib.hid fun W μ hs => fcMark_any w0 W gE nE cE Ek h B1 μ (by rw [hlE]; omega) (by rw [HNE.out, hlE]) (hst := hs)
      have HMK2 := Lib.hid fun W μ hs => fcMark_any w0 W gM nM cM Mk h B2 μ (by rw [hlM]; omega) (by rw [HNM.out, hlM]) (hst := hs)
      rw [hB1] at HALL1
      rw [hB2] at HALL2
      rw [hM1] at HMK1
      rw [hM2] at HMK2
      have HPG2 := Lib.hid ((HPG.out.e (i := h) (b := B1) (by rw [hlE]; omega)).m (i := h) (b := B2) (by rw [hlM]; omega))
      rw [hM1, hM2] at HPG2
      have HB1 := Lib.hid hB1; have HB2 := Lib.hid hB2; have HM1 := Lib.hid hM1; have HM2 := Lib.hid hM2
      clear hst hsE hsM hsR hbody hpb hlE hlM hlR hp0 hB1 hB2 hM1 hM2 hbl b3 b4 HPG
      cases M1
      all_goals
        go_wp2
        have HSTD := Lib.hid HST.out.drew
        obtain ⟨x0, -, -, -, -⟩ := HST.out.at5 4 rfl
        obtain ⟨p0, p1⟩ := HST.out.at2 1 rfl
        refine wp_region_held_drew (S := (fun w' => w'.cell? ⟨w.heap.size + 1, 0, none⟩ = some (.slice (some ⟨gE, 0, none⟩) nE cE) ∧ w'.cell? ⟨wo.heap.size, 0, none⟩ = some (.int .i64 h) ∧ w'.cell? ⟨wo.heap.size, 1, none⟩ = some (.slice ab body.length cb))) (by kernel_rfl) ?_ (fun hHeld => ?_)
        · (try dsimp only); (first | exact ⟨x0, p0, p1⟩ | go_keep)
        refine wpAnyH_take (i := 0) (v := ?_) rfl (by kernel_rfl) (by kernel_rfl) (by kernel_rfl) (fun _ _ _ h => h) (Or.inl ⟨by rfl, ?_⟩) (by assumption) ?_
        rotate_left; focus (intro w hSw; (try dsimp only at hSw); go_simp; try (with_reducible rfl); done)
        try simp only [List.getElem_toArray, List.getElem_cons_zero, List.getElem_cons_succ, Act.put, List.setIfInBounds_toArray, List.set_cons_zero, List.set_cons_succ]
        refine wpAnyH_take (i := 1) (v := ?_) rfl (by kernel_rfl) (by kernel_rfl) (by kernel_rfl) (fun _ _ _ h => h) (Or.inl ⟨by rfl, ?_⟩) (by assumption) ?_
        rotate_left; focus (intro w hSw; (try dsimp only at hSw); go_simp; try (with_reducible rfl); done)
        try simp only [List.getElem_toArray, List.getElem_cons_zero, List.getElem_cons_succ, Act.put, List.setIfInBounds_toArray, List.set_cons_zero, List.set_cons_succ]
        refine wpAnyH_take (i := 2) (v := ?_) rfl (by kernel_rfl) (by kernel_rfl) (by kernel_rfl) (fun _ _ _ h => h) (Or.inl ⟨by rfl, ?_⟩) (by assumption) ?_
        rotate_left; focus (intro w hSw; (try dsimp only at hSw); go_simp; try (with_reducible rfl); done)
        try simp only [List.getElem_toArray, List.getElem_cons_zero, List.getElem_cons_succ, Act.put, List.setIfInBounds_toArray, List.set_cons_zero, List.set_cons_succ]
        refine wpAnyH_take (i := 3) (v := ?_) rfl (by kernel_rfl) (by kernel_rfl) (by kernel_rfl) (fun _ _ _ h => h) (Or.inl ⟨by rfl, ?_⟩) (by assumption) ?_
        rotate_left; focus (intro w hSw; (try dsimp only at hSw); go_simp; try (with_reducible rfl); done)
        try simp only [List.getElem_toArray, List.getElem_cons_zero, List.getElem_cons_succ, Act.put, List.setIfInBounds_toArray, List.set_cons_zero, List.set_cons_succ]
        refine wpAnyH_take (i := 4) (v := ?_) rfl (by kernel_rfl) (by kernel_rfl) (by kernel_rfl) (fun _ _ _ h => h) (Or.inl ⟨by rfl, ?_⟩) (by assumption) ?_
        rotate_left; focus (intro w hSw; (try dsimp only at hSw); go_simp; try (with_reducible rfl); done)
        try simp only [List.getElem_toArray, List.getElem_cons_zero, List.getElem_cons_succ, Act.put, List.setIfInBounds_toArray, List.set_cons_zero, List.set_cons_succ]
        refine wpAnyH_take (i := 5) (v := ?_) rfl (by kernel_rfl) (by kernel_rfl) (by kernel_rfl) (fun _ _ _ h => h) (Or.inl ⟨by rfl, ?_⟩) (by assumption) ?_
        rotate_left; focus (intro w hSw; (try dsimp only at hSw); go_simp; try (with_reducible rfl); done)
        try simp only [List.getElem_toArray, List.getElem_cons_zero, List.getElem_cons_succ, Act.put, List.setIfInBounds_toArray, List.set_cons_zero, List.set_cons_succ]
        refine wpAnyH_take (i := 6) (v := ?_) rfl (by kernel_rfl) (by kernel_rfl) (by kernel_rfl) (fun _ _ _ h => h) (Or.inl ⟨by rfl, ?_⟩) (by assumption) ?_
        rotate_left; focus (intro w hSw; (try dsimp only at hSw); go_simp; try (with_reducible rfl); done)
        try simp only [List.getElem_toArray, List.getElem_cons_zero, List.getElem_cons_succ, Act.put, List.setIfInBounds_toArray, List.set_cons_zero, List.set_cons_succ]
        refine wpAnyH_take (i := 7) (v := ?_) rfl (by kernel_rfl) (by kernel_rfl) (by kernel_rfl) (fun _ _ _ h => h) (Or.inl ⟨by rfl, ?_⟩) (by assumption) ?_
        rotate_left; focus (intro w hSw; (try dsimp only at hSw); go_simp; try (with_reducible rfl); done)
        try simp only [List.getElem_toArray, List.getElem_cons_zero, List.getElem_cons_succ, Act.put, List.setIfInBounds_toArray, List.set_cons_zero, List.set_cons_succ]
        refine wpAnyH_ready (rs := [8]) (by kernel_rfl) (by simp) ?_
        refine AllReadyH.cons rfl (fun K hK => ?_) AllReadyH.nil
        go_simp
        (first | (go_at_call 148; refine (HALL1.out _ _ HSTD.out).mono ?_; rintro e w8 ⟨rfl, hst8⟩; have HSTD := Lib.hid hst8; obtain ⟨x0, -, -, -, -⟩ := hst8.at5 4 rfl; obtain ⟨p0, p1⟩ := hst8.at2 1 rfl; clear hst8) | (go_at_call 147; refine (HMK1.out _ _ HSTD.out).mono ?_; rintro e w9 ⟨rfl, hst9⟩; have HSTD := Lib.hid hst9; obtain ⟨x0, -, -, -, -⟩ := hst9.at5 4 rfl; obtain ⟨p0, p1⟩ := hst9.at2 1 rfl; clear hst9))
        refine hK.out _ _ ?_ (fun hHeld => ?_)
        · (try dsimp only); (first | exact ⟨x0, p0, p1⟩ | go_keep)
        clear hK K
        try simp only [List.getElem_toArray, List.getElem_cons_zero, List.getElem_cons_succ, Act.put, List.setIfInBounds_toArray, List.set_cons_zero, List.set_cons_succ]
        refine wpAnyH_ready (rs := [9]) (by kernel_rfl) (by simp) ?_
        refine AllReadyH.cons rfl (fun K hK => ?_) AllReadyH.nil
        go_simp
        (first | (go_at_call 148; refine (HALL1.out _ _ HSTD.out).mono ?_; rintro e w8 ⟨rfl, hst8⟩; have HSTD := Lib.hid hst8; obtain ⟨x0, -, -, -, -⟩ := hst8.at5 4 rfl; obtain ⟨p0, p1⟩ := hst8.at2 1 rfl; clear hst8) | (go_at_call 147; refine (HMK1.out _ _ HSTD.out).mono ?_; rintro e w9 ⟨rfl, hst9⟩; have HSTD := Lib.hid hst9; obtain ⟨x0, -, -, -, -⟩ := hst9.at5 4 rfl; obtain ⟨p0, p1⟩ := hst9.at2 1 rfl; clear hst9))
        refine hK.out _ _ ?_ (fun hHeld => ?_)
        · (try dsimp only); (first | exact ⟨x0, p0, p1⟩ | go_keep)
        clear hK K
        try simp only [List.getElem_toArray, List.getElem_cons_zero, List.getElem_cons_succ, Act.put, List.setIfInBounds_toArray, List.set_cons_zero, List.set_cons_succ]
        refine wpAnyH_take (i := 10) (v := ?_) rfl (by kernel_rfl) (by kernel_rfl) (by kernel_rfl) (fun _ _ _ h => h) (Or.inl ⟨by rfl, ?_⟩) (by assumption) ?_
        rotate_left; focus (intro w hSw; (try dsimp only at hSw); go_simp; try (with_reducible rfl); done)
        try simp only [List.getElem_toArray, List.getElem_cons_zero, List.getElem_cons_succ, Act.put, List.setIfInBounds_toArray, List.set_cons_zero, List.set_cons_succ]
        first | (refine wpAnyH_take (i := 11) (v := undef) rfl (by kernel_rfl) (by kernel_rfl) (by kernel_rfl) (fun _ _ _ h => h) (Or.inr ⟨by rfl, rfl⟩) (by assumption) ?_) | (refine wpAnyH_take (i := 11) (v := ?_) rfl (by kernel_rfl) (by kernel_rfl) (by kernel_rfl) (fun _ _ _ h => h) (Or.inl ⟨by rfl, ?_⟩) (by assumption) ?_; rotate_left; focus (intro w hSw; (try dsimp only at hSw); go_simp; try (with_reducible rfl); done))
        try simp only [List.getElem_toArray, List.getElem_cons_zero, List.getElem_cons_succ, Act.put, List.setIfInBounds_toArray, List.set_cons_zero, List.set_cons_succ]
        refine wpAnyH_take (i := 12) (v := ?_) rfl (by kernel_rfl) (by kernel_rfl) (by kernel_rfl) (fun _ _ _ h => h) (Or.inl ⟨by rfl, ?_⟩) (by assumption) ?_
        rotate_left; focus (intro w hSw; (try dsimp only at hSw); go_simp; try (with_reducible rfl); done)
        try simp only [List.getElem_toArray, List.getElem_cons_zero, List.getElem_cons_succ, Act.put, List.setIfInBounds_toArray, List.set_cons_zero, List.set_cons_succ]
        refine wpAnyH_take (i := 13) (v := ?_) rfl (by kernel_rfl) (by kernel_rfl) (by kernel_rfl) (fun _ _ _ h => h) (Or.inl ⟨by rfl, ?_⟩) (by assumption) ?_
        rotate_left; focus (intro w hSw; (try dsimp only at hSw); go_simp; try (with_reducible rfl); done)
        try simp only [List.getElem_toArray, List.getElem_cons_zero, List.getElem_cons_succ, Act.put, List.setIfInBounds_toArray, List.set_cons_zero, List.set_cons_succ]
        refine wpAnyH_done (by kernel_rfl) ?_ _
        all_goals
          clear HALL1 HMK1 HST x0 p0 p1
          cases M2
          all_goals
            go_wp2
            have HST := Lib.hid HSTD.out.get4
            have HSTD := Lib.hid HST.out.drew
            obtain ⟨-, -, -, -, x4⟩ := HST.out.at5 4 rfl
            obtain ⟨p0, p1⟩ := HST.out.at2 2 rfl
            refine wp_region_held_drew (S := (fun w' => w'.cell? ⟨w.heap.size + 1, 4, none⟩ = some (.slice (some ⟨gM, 0, none⟩) nM cM) ∧ w'.cell? ⟨wo.heap.size, 0, none⟩ = some (.int .i64 h) ∧ w'.cell? ⟨wo.heap.size, 1, none⟩ = some (.slice ab body.length cb))) (by kernel_rfl) ?_ (fun hHeld => ?_)
            · (try dsimp only); (first | exact ⟨x4, p0, p1⟩ | go_keep)
            refine wpAnyH_take (i := 0) (v := ?_) rfl (by kernel_rfl) (by kernel_rfl) (by kernel_rfl) (fun _ _ _ h => h) (Or.inl ⟨by rfl, ?_⟩) (by assumption) ?_
            rotate_left; focus (intro w hSw; (try dsimp only at hSw); go_simp; try (with_reducible rfl); done)
            try simp only [List.getElem_toArray, List.getElem_cons_zero, List.getElem_cons_succ, Act.put, List.setIfInBounds_toArray, List.set_cons_zero, List.set_cons_succ]
            refine wpAnyH_take (i := 1) (v := ?_) rfl (by kernel_rfl) (by kernel_rfl) (by kernel_rfl) (fun _ _ _ h => h) (Or.inl ⟨by rfl, ?_⟩) (by assumption) ?_
            rotate_left; focus (intro w hSw; (try dsimp only at hSw); go_simp; try (with_reducible rfl); done)
            try simp only [List.getElem_toArray, List.getElem_cons_zero, List.getElem_cons_succ, Act.put, List.setIfInBounds_toArray, List.set_cons_zero, List.set_cons_succ]
            refine wpAnyH_take (i := 2) (v := ?_) rfl (by kernel_rfl) (by kernel_rfl) (by kernel_rfl) (fun _ _ _ h => h) (Or.inl ⟨by rfl, ?_⟩) (by assumption) ?_
            rotate_left; focus (intro w hSw; (try dsimp only at hSw); go_simp; try (with_reducible rfl); done)
            try simp only [List.getElem_toArray, List.getElem_cons_zero, List.getElem_cons_succ, Act.put, List.setIfInBounds_toArray, List.set_cons_zero, List.set_cons_succ]
            refine wpAnyH_take (i := 3) (v := ?_) rfl (by kernel_rfl) (by kernel_rfl) (by kernel_rfl) (fun _ _ _ h => h) (Or.inl ⟨by rfl, ?_⟩) (by assumption) ?_
            rotate_left; focus (intro w hSw; (try dsimp only at hSw); go_simp; try (with_reducible rfl); done)
            try simp only [List.getElem_toArray, List.getElem_cons_zero, List.getElem_cons_succ, Act.put, List.setIfInBounds_toArray, List.set_cons_zero, List.set_cons_succ]
            refine wpAnyH_take (i := 4) (v := ?_) rfl (by kernel_rfl) (by kernel_rfl) (by kernel_rfl) (fun _ _ _ h => h) (Or.inl ⟨by rfl, ?_⟩) (by assumption) ?_
            rotate_left; focus (intro w hSw; (try dsimp only at hSw); go_simp; try (with_reducible rfl); done)
            try simp only [List.getElem_toArray, List.getElem_cons_zero, List.getElem_cons_succ, Act.put, List.setIfInBounds_toArray, List.set_cons_zero, List.set_cons_succ]
            refine wpAnyH_take (i := 5) (v := ?_) rfl (by kernel_rfl) (by kernel_rfl) (by kernel_rfl) (fun _ _ _ h => h) (Or.inl ⟨by rfl, ?_⟩) (by assumption) ?_
            rotate_left; focus (intro w hSw; (try dsimp only at hSw); go_simp; try (with_reducible rfl); done)
            try simp only [List.getElem_toArray, List.getElem_cons_zero, List.getElem_cons_succ, Act.put, List.setIfInBounds_toArray, List.set_cons_zero, List.set_cons_succ]
            refine wpAnyH_take (i := 6) (v := ?_) rfl (by kernel_rfl) (by kernel_rfl) (by kernel_rfl) (fun _ _ _ h => h) (Or.inl ⟨by rfl, ?_⟩) (by assumption) ?_
            rotate_left; focus (intro w hSw; (try dsimp only at hSw); go_simp; try (with_reducible rfl); done)
            try simp only [List.getElem_toArray, List.getElem_cons_zero, List.getElem_cons_succ, Act.put, List.setIfInBounds_toArray, List.set_cons_zero, List.set_cons_succ]
            refine wpAnyH_take (i := 7) (v := ?_) rfl (by kernel_rfl) (by kernel_rfl) (by kernel_rfl) (fun _ _ _ h => h) (Or.inl ⟨by rfl, ?_⟩) (by assumption) ?_
            rotate_left; focus (intro w hSw; (try dsimp only at hSw); go_simp; try (with_reducible rfl); done)
            try simp only [List.getElem_toArray, List.getElem_cons_zero, List.getElem_cons_succ, Act.put, List.setIfInBounds_toArray, List.set_cons_zero, List.set_cons_succ]
            refine wpAnyH_ready (rs := [8]) (by kernel_rfl) (by simp) ?_
            refine AllReadyH.cons rfl (fun K hK => ?_) AllReadyH.nil
            go_simp
            (first | (go_at_call 148; refine (HALL2.out _ _ HSTD.out).mono ?_; rintro e w8 ⟨rfl, hst8⟩; have HSTD := Lib.hid hst8; obtain ⟨-, -, -, -, x4⟩ := hst8.at5 4 rfl; obtain ⟨p0, p1⟩ := hst8.at2 2 rfl; clear hst8) | (go_at_call 147; refine (HMK2.out _ _ HSTD.out).mono ?_; rintro e w9 ⟨rfl, hst9⟩; have HSTD := Lib.hid hst9; obtain ⟨-, -, -, -, x4⟩ := hst9.at5 4 rfl; obtain ⟨p0, p1⟩ := hst9.at2 2 rfl; clear hst9))
            refine hK.out _ _ ?_ (fun hHeld => ?_)
            · (try dsimp only); (first | exact ⟨x4, p0, p1⟩ | go_keep)
            clear hK K
            try simp only [List.getElem_toArray, List.getElem_cons_zero, List.getElem_cons_succ, Act.put, List.setIfInBounds_toArray, List.set_cons_zero, List.set_cons_succ]
            refine wpAnyH_ready (rs := [9]) (by kernel_rfl) (by simp) ?_
            refine AllReadyH.cons rfl (fun K hK => ?_) AllReadyH.nil
            go_simp
            (first | (go_at_call 148; refine (HALL2.out _ _ HSTD.out).mono ?_; rintro e w8 ⟨rfl, hst8⟩; have HSTD := Lib.hid hst8; obtain ⟨-, -, -, -, x4⟩ := hst8.at5 4 rfl; obtain ⟨p0, p1⟩ := hst8.at2 2 rfl; clear hst8) | (go_at_call 147; refine (HMK2.out _ _ HSTD.out).mono ?_; rintro e w9 ⟨rfl, hst9⟩; have HSTD := Lib.hid hst9; obtain ⟨-, -, -, -, x4⟩ := hst9.at5 4 rfl; obtain ⟨p0, p1⟩ := hst9.at2 2 rfl; clear hst9))
            refine hK.out _ _ ?_ (fun hHeld => ?_)
            · (try dsimp only); (first | exact ⟨x4, p0, p1⟩ | go_keep)
            clear hK K
            try simp only [List.getElem_toArray, List.getElem_cons_zero, List.getElem_cons_succ, Act.put, List.setIfInBounds_toArray, List.set_cons_zero, List.set_cons_succ]
            refine wpAnyH_take (i := 10) (v := ?_) rfl (by kernel_rfl) (by kernel_rfl) (by kernel_rfl) (fun _ _ _ h => h) (Or.inl ⟨by rfl, ?_⟩) (by assumption) ?_
            rotate_left; focus (intro w hSw; (try dsimp only at hSw); go_simp; try (with_reducible rfl); done)
            try simp only [List.getElem_toArray, List.getElem_cons_zero, List.getElem_cons_succ, Act.put, List.setIfInBounds_toArray, List.set_cons_zero, List.set_cons_succ]
            first | (refine wpAnyH_take (i := 11) (v := undef) rfl (by kernel_rfl) (by kernel_rfl) (by kernel_rfl) (fun _ _ _ h => h) (Or.inr ⟨by rfl, rfl⟩) (by assumption) ?_) | (refine wpAnyH_take (i := 11) (v := ?_) rfl (by kernel_rfl) (by kernel_rfl) (by kernel_rfl) (fun _ _ _ h => h) (Or.inl ⟨by rfl, ?_⟩) (by assumption) ?_; rotate_left; focus (intro w hSw; (try dsimp only at hSw); go_simp; try (with_reducible rfl); done))
            try simp only [List.getElem_toArray, List.getElem_cons_zero, List.getElem_cons_succ, Act.put, List.setIfInBounds_toArray, List.set_cons_zero, List.set_cons_succ]
            refine wpAnyH_take (i := 12) (v := ?_) rfl (by kernel_rfl) (by kernel_rfl) (by kernel_rfl) (fun _ _ _ h => h) (Or.inl ⟨by rfl, ?_⟩) (by assumption) ?_
            rotate_left; focus (intro w hSw; (try dsimp only at hSw); go_simp; try (with_reducible rfl); done)
            try simp only [List.getElem_toArray, List.getElem_cons_zero, List.getElem_cons_succ, Act.put, List.setIfInBounds_toArray, List.set_cons_zero, List.set_cons_succ]
            refine wpAnyH_take (i := 13) (v := ?_) rfl (by kernel_rfl) (by kernel_rfl) (by kernel_rfl) (fun _ _ _ h => h) (Or.inl ⟨by rfl, ?_⟩) (by assumption) ?_
            rotate_left; focus (intro w hSw; (try dsimp only at hSw); go_simp; try (with_reducible rfl); done)
            try simp only [List.getElem_toArray, List.getElem_cons_zero, List.getElem_cons_succ, Act.put, List.setIfInBounds_toArray, List.set_cons_zero, List.set_cons_succ]
            refine wpAnyH_done (by kernel_rfl) ?_ _
            all_goals
              clear HALL2 HMK2 HST x4 p0 p1
              have HST := Lib.hid HSTD.out.get4
              clear HSTD
              obtain ⟨p0, p1⟩ := HST.out.at2 3 rfl
              go_wp2
              go_loopg [5, 46] body.length (fun gk mv i wr2 => ∃ (j : Nat) (m : Bool), j ≤ body.length ∧ gk = body.length - j ∧ i = .int .i64 j ∧ mv = .bool m ∧ St w0 wr2 (Fc.aB (.slice (some ⟨gR, 0, none⟩) nR cR) (Fc.rR h (body.take j) Rk) :: Fc.aB (.slice (some ⟨gM, 0, none⟩) nM cM) (Fc.set1 Mk h B2) :: Fc.aB (.slice (some ⟨gE, 0, none⟩) nE cE) (Fc.set1 Ek h B1) :: aCel wo.heap.size 186 #[.int .i64 h, .slice ab body.length cb] :: aCel (w.heap.size + 1) 88 #[.slice (some ⟨gE, 0, none⟩) nE cE, vF, vW, .slice (some ⟨gR, 0, none⟩) nR cR, .slice (some ⟨gM, 0, none⟩) nM cM] :: aCel w.heap.size 68 #[.int .i64 t, .int .i64 n, .slice (some ⟨bp, op, none⟩) l.length cp] :: μ) ∧ Hid (Fc.Prog (E, M, R) (Fc.set1 Ek h B1, Fc.set1 Mk h B2, Fc.rR h (body.take j) Rk) m))
              case atStart => exact ⟨0, _, by omega, by omega, rfl, rfl, HST.out, HPG2⟩
              case round =>
                clear HST HPG2 p0 p1
                obtain ⟨j, m2, hj, hgj, rfl, rfl, hst, HPG⟩ := hrel
                have HGJ := Lib.hid hgj
                clear hgj
                by_cases hlt3 : j < body.length
                · obtain ⟨rfl, _, _⟩ := B3.out (by omega)
                  obtain ⟨s1, s2, -, -⟩ := B4.out j hlt3
                  have hxx := HPB.out (body.getD j (0, 0)) (by rw [show body.getD j (0, 0) = body[j] by simp [List.getD, List.getElem?_eq_getElem hlt3]]; exact List.getElem_mem hlt3)
                  have hrs := Fc.rR_step (h := h) (R := Rk) hlt3
                  have hlR := Fc.rR_len (h := h) (b := body.take j) (R := Rk)
                  rw [HLR.out] at hlR
                  generalize body.getD j (0, 0) = x at *
                  generalize Fc.rR h (body.take j) Rk = Rj at *
                  obtain ⟨x1, x2⟩ := x
                  simp only at s1 s2 hxx hrs
                  have c1 := bkeep hst.bel s1
                  have c2 := bkeep hst.bel s2
                  have hlt4 : (j : Int) < body.length := by omega
                  have lb := World.block_lt_of_cell? _ _ c1
                  rcases hxx with ⟨rfl, h0, -⟩ | ⟨rfl, h0, h1⟩
                  · rw [if_neg (by decide)] at hrs
                    have HRS := Lib.hid hrs
                    have HST := Lib.hid (hst.skip (.cells #[.int .i64 1, .int .i64 x2] 96))
                    clear s1 s2 hst hrs hlR
                    go_wp2
                    go_roundg (body.length - (j + 1))
                    case measure => have := HGJ.out; omega
                    case rel => exact ⟨j + 1, m2, by omega, rfl, by go_num, rfl, by rw [HRS.out]; exact HST.out, by rw [HRS.out]; exact HPG⟩
                  · obtain ⟨q, rfl⟩ := Int.eq_ofNat_of_zero_le h0
                    rw [if_pos rfl, Int.toNat_natCast] at hrs
                    have hq : q < Rj.length := by omega
                    have hh : h < Rj.length := by omega
                    have hhn : (h : Int) < nR := by have := HNR.out; omega
                    obtain ⟨b, hb⟩ : ∃ b, Rj.getD h false = b := ⟨_, rfl⟩
                    rw [hb] at hrs
                    have hpg := HPG.out.r (i := q) (b := b) hq
                    obtain ⟨M3, hM3⟩ : ∃ M3, (b && !Rj.getD q false) = M3 := ⟨_, rfl⟩
                    rw [hM3] at hpg
                    have HMK3 := Lib.hid fun W μ hs => fcMark_any w0 W gR nR cR Rj q b μ hq (by rw [HNR.out]; omega) (hst := hs)
                    rw [hM3] at HMK3
                    have HC1 := Lib.hid fun (W : World) (μ : List Asrt) (hs : St w0 W (Fc.aB (.slice (some ⟨gR, 0, none⟩) nR cR) Rj :: μ)) => (show W.cell? ⟨gR, h, none⟩ = some (.bool b) from by
                      unfold Fc.aB at hs
                      have := (hs.cellOwn (f := Value.bool) (fun _ => rfl) h hh false).1
                      rw [hb] at this
                      exact this)
                    have HC2 := Lib.hid fun (W : World) (μ : List Asrt) (hs : St w0 W (Fc.aB (.slice (some ⟨gR, 0, none⟩) nR cR) (Fc.set1 Rj q b) :: μ)) => (show W.cell? ⟨gR, h, none⟩ = some (.bool b) from by
                      unfold Fc.aB at hs
                      have := (hs.cellOwn (f := Value.bool) (fun _ => rfl) h (by rw [Fc.set1_len]; exact hh) false).1
                      rw [Fc.set1_self hb hq] at this
                      exact this)
                    have HST := Lib.hid (hst.alloc #[.int .i64 2, .int .i64 q] 96).get2
                    have HPG3 := Lib.hid hpg
                    have HRS := Lib.hid hrs
                    clear s1 s2 hst hrs hlR hb hM3 hpg hq hh HPG
                    cases M3
                    all_goals
                      go_wp2
                      have HSTD := Lib.hid HST.out.drew
                      obtain ⟨-, -, -, x3, -⟩ := HST.out.at5 5 rfl
                      obtain ⟨p0, p1⟩ := HST.out.at2 4 rfl
                      obtain ⟨y0, y1⟩ := HST.out.at2 1 rfl
                      have r0 := HC1.out _ _ HST.out
                      refine wp_region_held_drew (S := (fun w' => w'.cell? ⟨w.heap.size + 1, 3, none⟩ = some (.slice (some ⟨gR, 0, none⟩) nR cR) ∧ w'.cell? ⟨wo.heap.size, 0, none⟩ = some (.int .i64 h) ∧ w'.cell? ⟨wr.heap.size, 1, none⟩ = some (.int .i64 q) ∧ w'.cell? ⟨gR, h, none⟩ = some (.bool b))) (by kernel_rfl) ?_ (fun hHeld => ?_)
                      · (try dsimp only); (first | exact ⟨x3, p0, y1, r0⟩ | go_keep)
                      refine wpAnyH_take (i := 0) (v := ?_) rfl (by kernel_rfl) (by kernel_rfl) (by kernel_rfl) (fun _ _ _ h => h) (Or.inl ⟨by rfl, ?_⟩) (by assumption) ?_
                      rotate_left; focus (intro w hSw; (try dsimp only at hSw); go_simp; try (with_reducible rfl); done)
                      try simp only [List.getElem_toArray, List.getElem_cons_zero, List.getElem_cons_succ, Act.put, List.setIfInBounds_toArray, List.set_cons_zero, List.set_cons_succ]
                      refine wpAnyH_take (i := 1) (v := ?_) rfl (by kernel_rfl) (by kernel_rfl) (by kernel_rfl) (fun _ _ _ h => h) (Or.inl ⟨by rfl, ?_⟩) (by assumption) ?_
                      rotate_left; focus (intro w hSw; (try dsimp only at hSw); go_simp; try (with_reducible rfl); done)
                      try simp only [List.getElem_toArray, List.getElem_cons_zero, List.getElem_cons_succ, Act.put, List.setIfInBounds_toArray, List.set_cons_zero, List.set_cons_succ]
                      refine wpAnyH_take (i := 2) (v := ?_) rfl (by kernel_rfl) (by kernel_rfl) (by kernel_rfl) (fun _ _ _ h => h) (Or.inl ⟨by rfl, ?_⟩) (by assumption) ?_
                      rotate_left; focus (intro w hSw; (try dsimp only at hSw); go_simp; try (with_reducible rfl); done)
                      try simp only [List.getElem_toArray, List.getElem_cons_zero, List.getElem_cons_succ, Act.put, List.setIfInBounds_toArray, List.set_cons_zero, List.set_cons_succ]
                      refine wpAnyH_take (i := 3) (v := ?_) rfl (by kernel_rfl) (by kernel_rfl) (by kernel_rfl) (fun _ _ _ h => h) (Or.inl ⟨by rfl, ?_⟩) (by assumption) ?_
                      rotate_left; focus (intro w hSw; (try dsimp only at hSw); go_simp; try (with_reducible rfl); done)
                      try simp only [List.getElem_toArray, List.getElem_cons_zero, List.getElem_cons_succ, Act.put, List.setIfInBounds_toArray, List.set_cons_zero, List.set_cons_succ]
                      refine wpAnyH_take (i := 4) (v := ?_) rfl (by kernel_rfl) (by kernel_rfl) (by kernel_rfl) (fun _ _ _ h => h) (Or.inl ⟨by rfl, ?_⟩) (by assumption) ?_
                      rotate_left; focus (intro w hSw; (try dsimp only at hSw); go_simp; try (with_reducible rfl); done)
                      try simp only [List.getElem_toArray, List.getElem_cons_zero, List.getElem_cons_succ, Act.put, List.setIfInBounds_toArray, List.set_cons_zero, List.set_cons_succ]
                      refine wpAnyH_take (i := 5) (v := ?_) rfl (by kernel_rfl) (by kernel_rfl) (by kernel_rfl) (fun _ _ _ h => h) (Or.inl ⟨by rfl, ?_⟩) (by assumption) ?_
                      rotate_left; focus (intro w hSw; (try dsimp only at hSw); go_simp; try (with_reducible rfl); done)
                      try simp only [List.getElem_toArray, List.getElem_cons_zero, List.getElem_cons_succ, Act.put, List.setIfInBounds_toArray, List.set_cons_zero, List.set_cons_succ]
                      refine wpAnyH_take (i := 6) (v := ?_) rfl (by kernel_rfl) (by kernel_rfl) (by kernel_rfl) (fun _ _ _ h => h) (Or.inl ⟨by rfl, ?_⟩) (by assumption) ?_
                      rotate_left; focus (intro w hSw; (try dsimp only at hSw); go_simp; try (with_reducible rfl); done)
                      try simp only [List.getElem_toArray, List.getElem_cons_zero, List.getElem_cons_succ, Act.put, List.setIfInBounds_toArray, List.set_cons_zero, List.set_cons_succ]
                      refine wpAnyH_take (i := 7) (v := ?_) rfl (by kernel_rfl) (by kernel_rfl) (by kernel_rfl) (fun _ _ _ h => h) (Or.inl ⟨by rfl, ?_⟩) (by assumption) ?_
                      rotate_left; focus (intro w hSw; (try dsimp only at hSw); go_simp; try (with_reducible rfl); done)
                      try simp only [List.getElem_toArray, List.getElem_cons_zero, List.getElem_cons_succ, Act.put, List.setIfInBounds_toArray, List.set_cons_zero, List.set_cons_succ]
                      refine wpAnyH_take (i := 8) (v := ?_) rfl (by kernel_rfl) (by kernel_rfl) (by kernel_rfl) (fun _ _ _ h => h) (Or.inl ⟨by rfl, ?_⟩) (by assumption) ?_
                      rotate_left; focus (intro w hSw; (try dsimp only at hSw); go_simp; try (with_reducible rfl); done)
                      try simp only [List.getElem_toArray, List.getElem_cons_zero, List.getElem_cons_succ, Act.put, List.setIfInBounds_toArray, List.set_cons_zero, List.set_cons_succ]
                      refine wpAnyH_take (i := 9) (v := ?_) rfl (by kernel_rfl) (by kernel_rfl) (by kernel_rfl) (fun _ _ _ h => h) (Or.inl ⟨by rfl, ?_⟩) (by assumption) ?_
                      rotate_left; focus (intro w hSw; (try dsimp only at hSw); go_simp; try (with_reducible rfl); done)
                      try simp only [List.getElem_toArray, List.getElem_cons_zero, List.getElem_cons_succ, Act.put, List.setIfInBounds_toArray, List.set_cons_zero, List.set_cons_succ]
                      refine wpAnyH_ready (rs := [10]) (by kernel_rfl) (by simp) ?_
                      refine AllReadyH.cons rfl (fun K hK => ?_) AllReadyH.nil
                      go_simp
                      (first | (go_at_call 147; refine (HMK3.out _ _ HSTD.out).mono ?_; rintro e w9 ⟨rfl, hst9⟩; have HSTD := Lib.hid hst9; obtain ⟨-, -, -, x3, -⟩ := hst9.at5 5 rfl; obtain ⟨p0, p1⟩ := hst9.at2 4 rfl; obtain ⟨y0, y1⟩ := hst9.at2 1 rfl; have r0 := HC2.out _ _ hst9; clear hst9))
                      refine hK.out _ _ ?_ (fun hHeld => ?_)
                      · (try dsimp only); (first | exact ⟨x3, p0, y1, r0⟩ | go_keep)
                      clear hK K
                      try simp only [List.getElem_toArray, List.getElem_cons_zero, List.getElem_cons_succ, Act.put, List.setIfInBounds_toArray, List.set_cons_zero, List.set_cons_succ]
                      refine wpAnyH_take (i := 11) (v := ?_) rfl (by kernel_rfl) (by kernel_rfl) (by kernel_rfl) (fun _ _ _ h => h) (Or.inl ⟨by rfl, ?_⟩) (by assumption) ?_
                      rotate_left; focus (intro w hSw; (try dsimp only at hSw); go_simp; try (with_reducible rfl); done)
                      try simp only [List.getElem_toArray, List.getElem_cons_zero, List.getElem_cons_succ, Act.put, List.setIfInBounds_toArray, List.set_cons_zero, List.set_cons_succ]
                      first | (refine wpAnyH_take (i := 12) (v := undef) rfl (by kernel_rfl) (by kernel_rfl) (by kernel_rfl) (fun _ _ _ h => h) (Or.inr ⟨by rfl, rfl⟩) (by assumption) ?_) | (refine wpAnyH_take (i := 12) (v := ?_) rfl (by kernel_rfl) (by kernel_rfl) (by kernel_rfl) (fun _ _ _ h => h) (Or.inl ⟨by rfl, ?_⟩) (by assumption) ?_; rotate_left; focus (intro w hSw; (try dsimp only at hSw); go_simp; try (with_reducible rfl); done))
                      try simp only [List.getElem_toArray, List.getElem_cons_zero, List.getElem_cons_succ, Act.put, List.setIfInBounds_toArray, List.set_cons_zero, List.set_cons_succ]
                      refine wpAnyH_take (i := 13) (v := ?_) rfl (by kernel_rfl) (by kernel_rfl) (by kernel_rfl) (fun _ _ _ h => h) (Or.inl ⟨by rfl, ?_⟩) (by assumption) ?_
                      rotate_left; focus (intro w hSw; (try dsimp only at hSw); go_simp; try (with_reducible rfl); done)
                      try simp only [List.getElem_toArray, List.getElem_cons_zero, List.getElem_cons_succ, Act.put, List.setIfInBounds_toArray, List.set_cons_zero, List.set_cons_succ]
                      refine wpAnyH_take (i := 14) (v := ?_) rfl (by kernel_rfl) (by kernel_rfl) (by kernel_rfl) (fun _ _ _ h => h) (Or.inl ⟨by rfl, ?_⟩) (by assumption) ?_
                      rotate_left; focus (intro w hSw; (try dsimp only at hSw); go_simp; try (with_reducible rfl); done)
                      try simp only [List.getElem_toArray, List.getElem_cons_zero, List.getElem_cons_succ, Act.put, List.setIfInBounds_toArray, List.set_cons_zero, List.set_cons_succ]
                      refine wpAnyH_done (by kernel_rfl) ?_ _
                      all_goals
                        clear HMK3 HST x3 p0 p1 y0 y1 r0
                        go_wp2
                        go_roundg (body.length - (j + 1))
                        case measure => have := HGJ.out; omega
                        case rel => exact ⟨j + 1, _, by omega, rfl, by go_num, rfl, by rw [HRS.out]; exact HSTD.out.get2.drop, by rw [HRS.out]; exact HPG3⟩
                · obtain rfl : j = body.length := by omega
                  rw [List.take_length] at hst HPG
                  have HST := Lib.hid hst
                  clear hst
                  go_wp2
                  go_roundg (l.length - (k + 1))
                  case measure => have := HGK.out; omega
                  case rel => exact ⟨k + 1, m2, by omega, rfl, by go_num, rfl, by rw [HSE.out, HSM.out, HSR.out, HB1.out, HB2.out]; exact HST.out.get4.drop, by rw [HSE.out, HSM.out, HSR.out, HB1.out, HB2.out]; exact HPG⟩
    · obtain rfl : k = l.length := by omega
      rw [List.take_length] at hst HPG
      have HST := Lib.hid hst
      clear hst
      go_wp2
      go_ret
      exact ⟨m, rfl, HPG.out, HST.out.get5.get5.drop.drop⟩
end Go.Proofs.Ytldapomcjfkeeaa
