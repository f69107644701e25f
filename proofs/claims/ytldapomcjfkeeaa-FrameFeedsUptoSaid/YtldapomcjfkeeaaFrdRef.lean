/-
  Feed of the reference: what it computes.
-/
import Derived.Test.YtldapomcjfkeeaaFrdFeed
namespace Go.Proofs.Ytldapomcjfkeeaa
set_option linter.unusedVariables false
open Go.ChangeShapes Go.WideShapes Go.ChangeAt Go.RowKit
open Pack (bat bat_get bat_nn bat_lt)

namespace Frd
theorem bat_str (xs : List Int) (h : ∀ x ∈ xs, 0 ≤ x ∧ x < 256) (j : Nat) (hj : j < xs.length) : bat (strOfNums xs) j = xs.getD j 0 := by
  have hx := h xs[j] (List.getElem_mem hj)
  unfold bat strOfNums
  simp [List.getD, hj]
  omega
theorem str_ext {a b : ByteArray} (hs : a.size = b.size) (h : ∀ j, j < a.size → bat a j = bat b j) : a = b := by
  apply ByteArray.ext
  apply Array.ext
  · simpa using hs
  · intro j h1 h2
    have h1' : j < a.size := by simpa using h1
    have h2' : j < b.size := by omega
    have e := h j h1'
    rw [← bat_get a j h1', ← bat_get b j h2'] at e
    have e2 : (a[j]'h1').toNat = (b[j]'h2').toNat := by omega
    exact UInt8.toNat_inj.1 e2
theorem four_iff {c : Int} (hc : Crc.In c) {s : ByteArray} {M : Nat} (hm : M + 8 ≤ s.size) (hb : body s = M) : strOfNums (Frm.four c) = s.extract (M + 4) (M + 8) ↔ c = tail4 s := by
  obtain ⟨h0, h1⟩ := hc
  have hl : (strOfNums (Frm.four c)).size = 4 := by rw [strOfNums_size]; rfl
  have he : (s.extract (M + 4) (M + 8)).size = 4 := by rw [ByteArray.size_extract]; omega
  have hbat : ∀ j, j < 4 → bat (s.extract (M + 4) (M + 8)) j = bat s (M + 4 + j) := fun j hj => by
    rw [← bat_get _ j (by omega), ← bat_get s (M + 4 + j) (by omega)]
    congr 2
    exact ByteArray.getElem_extract ..
  have hfour : ∀ j, j < 4 → bat (strOfNums (Frm.four c)) j = (Frm.four c).getD j 0 := fun j hj => bat_str _ (fun x hx => by
    simp only [Frm.four, List.mem_cons, List.not_mem_nil, or_false] at hx
    rcases hx with h | h | h | h <;> omega) j hj
  have b0 := bat_lt s (M + 4); have b1 := bat_lt s (M + 5); have b2 := bat_lt s (M + 6); have b3 := bat_lt s (M + 7)
  have d0 := bat_nn s (M + 4); have d1 := bat_nn s (M + 5); have d2 := bat_nn s (M + 6); have d3 := bat_nn s (M + 7)
  have ht : tail4 s = bat s (M + 4) + 256 * bat s (M + 5) + 65536 * bat s (M + 6) + 16777216 * bat s (M + 7) := by unfold tail4; rw [hb]
  constructor
  · intro h
    have e0 : c % 256 = bat s (M + 4) := by have := hfour 0 (by decide); rw [h, hbat 0 (by decide)] at this; exact this.symm
    have e1 : c / 256 % 256 = bat s (M + 5) := by have := hfour 1 (by decide); rw [h, hbat 1 (by decide)] at this; exact this.symm
    have e2 : c / 65536 % 256 = bat s (M + 6) := by have := hfour 2 (by decide); rw [h, hbat 2 (by decide)] at this; exact this.symm
    have e3 : c / 16777216 = bat s (M + 7) := by have := hfour 3 (by decide); rw [h, hbat 3 (by decide)] at this; exact this.symm
    omega
  · intro h
    rw [ht] at h
    refine str_ext (by omega) (fun j hj => ?_)
    rw [hl] at hj
    rw [hfour j hj, hbat j hj]
    match j, hj with
    | 0, _ => show c % 256 = bat s (M + 4); omega
    | 1, _ => show c / 256 % 256 = bat s (M + 5); omega
    | 2, _ => show c / 65536 % 256 = bat s (M + 6); omega
    | 3, _ => show c / 16777216 = bat s (M + 7); omega
end Frd
def Frd.RetRef (L : List (Int × Int × ByteArray)) (R : ByteArray) (E : Int) (w : World) (e : Ending) (w' : World) : Prop := ∃ v, e = .returned (.tuple #[v, .string R, .int .i64 E]) ∧ St w w' [aOwn 32 3 v (L.map frameV)]

set_option maxRecDepth 100000 in
set_option maxHeartbeats 8000000 in
theorem feedRef_any (s : ByteArray) (w : World) (L : List (Int × Int × ByteArray)) (R : ByteArray) (E : Int) (hsz : s.size ≤ 1048576) (hf : Frd.Feeds s L R E) :
    Calls Try.prog 15 #[.string s] w (Frd.RetRef L R E w) := by
  have hst := (St.init w).nilOwn 32 3
  have HL : Hid (Frd.Left s [] L R E) := Lib.hid ⟨L, hf, rfl⟩
  clear hf
  go_enter Try.func15, Try.ntmps15
  go_wp2
  go_loopw [0, 2] (fun sv o wr => Frd.FeedRel 1048576 L R E w [] sv o wr) (fun sv _ _ => strLen sv)
  case atStart => exact ⟨s, [], rfl, by simpa using hsz, hst, HL⟩
  case round =>
    clear hst HL hsz s
    obtain ⟨t, out, rfl, hol, hst, HL⟩ := hrel
    obtain ⟨av, nv, cv, rfl⟩ : ∃ x n c, u2 = .slice x n c := by obtain ⟨x, c, h⟩ := hst.own.isLen; exact ⟨_, _, _, h⟩
    have ht20 : (t.size : Int) ≤ 1048576 := by omega
    rcases Frd.front_cases t with ⟨h0, h1, hr⟩ | ⟨h0, h1, hr⟩ | ⟨h0, h1, h2, h3, hr⟩ | ⟨h0, h1, h2, h3, h4, hr⟩ | ⟨h0, h1, h2, h3, h4, h5, hr⟩ | ⟨h0, h1, h2, h3, h4, h5, hr⟩
    · obtain ⟨rfl, rfl, rfl⟩ := Frd.left_bad HL.out hr
      have b0 := bat_get t 0 h0
      have b0n := bat_nn t 0
      have h0i : (1 : Int) ≤ t.size := by omega
      have h0n : 1 ≤ t.size := by omega
      rw [← b0] at h1 b0n
      clear b0 hr HL
      rcases h1 with h1 | h1
      · have hzb : ((t[0].toNat : Int) == 0) = true := by rw [beq_iff_eq]; omega
        clear h1
        go_wp2
        go_ret3
        exact ⟨_, rfl, hst⟩
      · have hzb : ((t[0].toNat : Int) == 0) = false := by rw [beq_eq_false_iff_ne]; omega
        go_wp2
        go_ret3
        exact ⟨_, rfl, hst⟩
    · obtain ⟨rfl, rfl, rfl⟩ := Frd.left_more HL.out hr
      clear hr HL
      by_cases hz : 0 < R.size
      · have b0 := bat_get R 0 hz
        have q1 : 1 ≤ bat R 0 := by omega
        have q2 : bat R 0 ≤ 9 := by omega
        rw [← b0] at q1 q2
        have hzb : ((R[0].toNat : Int) == 0) = false := by rw [beq_eq_false_iff_ne]; omega
        have h0i : (1 : Int) ≤ R.size := by omega
        have h0n : 1 ≤ R.size := by omega
        clear b0 h0
        go_wp2
        go_ret3
        exact ⟨_, rfl, hst⟩
      · have hzd : decide (1 ≤ R.size) = false := decide_eq_false (by omega)
        have hzd2 : decide ((1 : Int) ≤ (R.size : Int)) = false := decide_eq_false (by omega)
        have hzd3 : decide (0 < R.size) = false := decide_eq_false (by omega)
        clear h0 hz
        go_wp2
        go_ret3
        exact ⟨_, rfl, hst⟩
    · obtain ⟨rfl, rfl, rfl⟩ := Frd.left_bad HL.out hr
      clear hr HL
      have x2l := bat_lt t 2; have x2g := bat_nn t 2; have x3l := bat_lt t 3; have x3g := bat_nn t 3
      have hnum : Frd.num t = bat t 2 + 256 * bat t 3 := rfl
      have b2 := bat_get t 2 (by omega)
      have b3 := bat_get t 3 (by omega)
      have h42 : 2 < t.size := by omega
      have h43 : 3 < t.size := by omega
      have h40 : 0 < t.size := by omega
      have b0 := bat_get t 0 h40
      rw [← b0] at h0 h1
      clear b0
      generalize bat t 2 = x2 at *
      generalize bat t 3 = x3 at *
      have w2 : IntKind.i64.wrap x2 = x2 := IntWalk.i64_in _ (by omega)
      have w3 : IntKind.i64.wrap x3 = x3 := IntWalk.i64_in _ (by omega)
      have w4 : IntKind.i64.wrap (x3 * 256) = x3 * 256 := IntWalk.i64_in _ (by omega)
      generalize hN : Frd.num t = N at *
      have w5 : IntKind.i64.wrap (x3 * 256 + x2) = N := by rw [hnum]; rw [IntWalk.i64_in _ (by omega)]; omega
      have hn0 : 0 ≤ N := by omega
      have hn1 : N ≤ 65535 := by omega
      have hzb : ((t[0].toNat : Int) == 0) = false := by rw [beq_eq_false_iff_ne]; omega
      have h4i : (4 : Int) ≤ t.size := by omega
      have HN := Lib.hid hN
      clear hnum hN
      go_wp2
      go_quiet (fail)
      go_wp2
      go_ret3
      exact ⟨_, rfl, hst.drewN _⟩
    · obtain ⟨rfl, rfl, rfl⟩ := Frd.left_more HL.out hr
      clear hr HL
      have x2l := bat_lt R 2; have x2g := bat_nn R 2; have x3l := bat_lt R 3; have x3g := bat_nn R 3
      have hnum : Frd.num R = bat R 2 + 256 * bat R 3 := rfl
      have b2 := bat_get R 2 (by omega)
      have b3 := bat_get R 3 (by omega)
      have h42 : 2 < R.size := by omega
      have h43 : 3 < R.size := by omega
      have h40 : 0 < R.size := by omega
      have b0 := bat_get R 0 h40
      rw [← b0] at h0 h1
      clear b0
      generalize bat R 2 = x2 at *
      generalize bat R 3 = x3 at *
      have w2 : IntKind.i64.wrap x2 = x2 := IntWalk.i64_in _ (by omega)
      have w3 : IntKind.i64.wrap x3 = x3 := IntWalk.i64_in _ (by omega)
      have w4 : IntKind.i64.wrap (x3 * 256) = x3 * 256 := IntWalk.i64_in _ (by omega)
      generalize hN : Frd.num R = N at *
      have w5 : IntKind.i64.wrap (x3 * 256 + x2) = N := by rw [hnum]; rw [IntWalk.i64_in _ (by omega)]; omega
      have hn0 : 0 ≤ N := by omega
      have hn1 : N ≤ 65535 := by omega
      have hzb : ((R[0].toNat : Int) == 0) = false := by rw [beq_eq_false_iff_ne]; omega
      have h4i : (4 : Int) ≤ R.size := by omega
      have HN := Lib.hid hN
      clear hnum hN
      go_wp2
      go_quiet (fail)
      go_wp2
      go_ret3
      exact ⟨_, rfl, hst.drewN _⟩
    · obtain ⟨rfl, rfl, rfl⟩ := Frd.left_bad HL.out hr
      clear hr HL
      have x2l := bat_lt t 2; have x2g := bat_nn t 2; have x3l := bat_lt t 3; have x3g := bat_nn t 3
      have hnum : Frd.num t = bat t 2 + 256 * bat t 3 := rfl
      have b2 := bat_get t 2 (by omega)
      have b3 := bat_get t 3 (by omega)
      have h42 : 2 < t.size := by omega
      have h43 : 3 < t.size := by omega
      have h40 : 0 < t.size := by omega
      have b0 := bat_get t 0 h40
      rw [← b0] at h0 h1
      clear b0
      generalize bat t 2 = x2 at *
      generalize bat t 3 = x3 at *
      have w2 : IntKind.i64.wrap x2 = x2 := IntWalk.i64_in _ (by omega)
      have w3 : IntKind.i64.wrap x3 = x3 := IntWalk.i64_in _ (by omega)
      have w4 : IntKind.i64.wrap (x3 * 256) = x3 * 256 := IntWalk.i64_in _ (by omega)
      generalize hN : Frd.num t = N at *
      have w55 : IntKind.i64.wrap (x3 * 256 + x2) = N := by rw [hnum]; rw [IntWalk.i64_in _ (by omega)]; omega
      have hn0 : 0 ≤ N := by omega
      have hn1 : N ≤ 65535 := by omega
      have hzb : ((t[0].toNat : Int) == 0) = false := by rw [beq_eq_false_iff_ne]; omega
      have h4i : (4 : Int) ≤ t.size := by omega
      have HN := Lib.hid hN
      clear hnum hN
      have hM : Frd.body t = N.toNat := by unfold Frd.body; rw [HN.out]
      obtain ⟨M, rfl⟩ := Int.eq_ofNat_of_zero_le hn0
      rw [Int.toNat_natCast] at hM
      have HM := Lib.hid hM
      clear hM
      have m1 : IntKind.i64.wrap (4 + (M : Int)) = 4 + (M : Int) := IntWalk.i64_in _ (by omega)
      have m2 : (0 : Int) ≤ 4 + (M : Int) := by omega
      have m3 : (4 + (M : Int)).toNat = M + 4 := by omega
      have m4 : 4 + (M : Int) ≤ t.size := by omega
      have m5 : IntKind.i64.wrap (8 + (M : Int)) = 8 + (M : Int) := IntWalk.i64_in _ (by omega)
      have m6 : (0 : Int) ≤ 8 + (M : Int) := by omega
      have m7 : (8 + (M : Int)).toNat = M + 8 := by omega
      have m8 : 8 + (M : Int) ≤ t.size := by omega
      have m9 : 4 + (M : Int) ≤ 8 + (M : Int) := by omega
      have m10 : (4 : Int) ≤ 4 + (M : Int) := by omega
      have HSM := Lib.hid (fun W => rsum_any 0 (t.extract 0 (M + 4)) Frm.zero_in (by rw [ByteArray.size_extract]; unfold maxLen; omega) W)
      obtain ⟨CC, hCC⟩ : ∃ CC, Crc.more 0 (t.extract 0 (M + 4)).data.toList = CC := ⟨_, rfl⟩
      have hin : Crc.In CC := by rw [← hCC]; exact Crc.more_in _ _ Frm.zero_in
      have hcs : Frd.csum t = CC := by unfold Frd.csum; rw [HM.out]; exact hCC
      rw [hcs] at h5
      have hiff := Frd.four_iff hin (s := t) (M := M) (by omega) HM.out
      replace h5 := mt hiff.1 h5
      rw [hCC] at HSM
      have HFO := Lib.hid (fun W => four_any CC hin W)
      generalize strOfNums (Frm.four CC) = FS at *
      generalize hTS : t.extract (M + 4) (M + 8) = TS at *
      clear hCC hin hcs hiff
      have hbq : (FS.toList == TS.toList) = false := by
        rw [beq_eq_false_iff_ne]; intro h
        rw [ByteArray.toList_eq, ByteArray.toList_eq] at h
        exact h5 (ByteArray.ext (Array.toList_inj.1 h))
      clear h5
      go_wp2
      go_quiet (fail)
      go_wp2
      replace hst := hst.drewN nq
      generalize wr.drewN nq = W1 at hst ⊢
      go_region_with ((first
        | (go_at_call 74; refine (HSM.out _).mono ?_; rintro e w5 ⟨rfl, rfl⟩)
        | (go_at_call 73; refine (HFO.out _).mono ?_; rintro e w5 ⟨rfl, hb5⟩)))
      go_wp2
      go_ret3
      exact ⟨_, rfl, hst.drew.call hb5⟩
    · have HLN := Lib.hid (Frd.left_got HL.out hr)
      have hgs := Frd.got_size hr
      have hg5 := hgs.2.2.2.2
      have hrest : Frd.rest t = t.extract (Frd.body t + 8) t.size := rfl
      have HRS := Lib.hid hrest
      have HG5 := Lib.hid hg5
      clear hr HL hgs hg5 hrest
      have x2l := bat_lt t 2; have x2g := bat_nn t 2; have x3l := bat_lt t 3; have x3g := bat_nn t 3
      have hnum : Frd.num t = bat t 2 + 256 * bat t 3 := rfl
      have b2 := bat_get t 2 (by omega)
      have b3 := bat_get t 3 (by omega)
      have h42 : 2 < t.size := by omega
      have h43 : 3 < t.size := by omega
      have h40 : 0 < t.size := by omega
      have b0 := bat_get t 0 h40
      rw [← b0] at h0 h1
      clear b0
      generalize bat t 2 = x2 at *
      generalize bat t 3 = x3 at *
      have w2 : IntKind.i64.wrap x2 = x2 := IntWalk.i64_in _ (by omega)
      have w3 : IntKind.i64.wrap x3 = x3 := IntWalk.i64_in _ (by omega)
      have w4 : IntKind.i64.wrap (x3 * 256) = x3 * 256 := IntWalk.i64_in _ (by omega)
      generalize hN : Frd.num t = N at *
      have w55 : IntKind.i64.wrap (x3 * 256 + x2) = N := by rw [hnum]; rw [IntWalk.i64_in _ (by omega)]; omega
      have hn0 : 0 ≤ N := by omega
      have hn1 : N ≤ 65535 := by omega
      have hzb : ((t[0].toNat : Int) == 0) = false := by rw [beq_eq_false_iff_ne]; omega
      have h4i : (4 : Int) ≤ t.size := by omega
      have HN := Lib.hid hN
      clear hnum hN
      have hM : Frd.body t = N.toNat := by unfold Frd.body; rw [HN.out]
      obtain ⟨M, rfl⟩ := Int.eq_ofNat_of_zero_le hn0
      rw [Int.toNat_natCast] at hM
      have HM := Lib.hid hM
      clear hM
      have m1 : IntKind.i64.wrap (4 + (M : Int)) = 4 + (M : Int) := IntWalk.i64_in _ (by omega)
      have m2 : (0 : Int) ≤ 4 + (M : Int) := by omega
      have m3 : (4 + (M : Int)).toNat = M + 4 := by omega
      have m4 : 4 + (M : Int) ≤ t.size := by omega
      have m5 : IntKind.i64.wrap (8 + (M : Int)) = 8 + (M : Int) := IntWalk.i64_in _ (by omega)
      have m6 : (0 : Int) ≤ 8 + (M : Int) := by omega
      have m7 : (8 + (M : Int)).toNat = M + 8 := by omega
      have m8 : 8 + (M : Int) ≤ t.size := by omega
      have m9 : 4 + (M : Int) ≤ 8 + (M : Int) := by omega
      have m10 : (4 : Int) ≤ 4 + (M : Int) := by omega
      have HSM := Lib.hid (fun W => rsum_any 0 (t.extract 0 (M + 4)) Frm.zero_in (by rw [ByteArray.size_extract]; unfold maxLen; omega) W)
      obtain ⟨CC, hCC⟩ : ∃ CC, Crc.more 0 (t.extract 0 (M + 4)).data.toList = CC := ⟨_, rfl⟩
      have hin : Crc.In CC := by rw [← hCC]; exact Crc.more_in _ _ Frm.zero_in
      have hcs : Frd.csum t = CC := by unfold Frd.csum; rw [HM.out]; exact hCC
      rw [hcs] at h5
      have hiff := Frd.four_iff hin (s := t) (M := M) (by omega) HM.out
      replace h5 := hiff.2 h5
      rw [hCC] at HSM
      have HFO := Lib.hid (fun W => four_any CC hin W)
      generalize strOfNums (Frm.four CC) = FS at *
      generalize hTS : t.extract (M + 4) (M + 8) = TS at *
      clear hCC hin hcs hiff
      have hbq : (FS.toList == TS.toList) = true := by rw [h5]; simp
      clear h5
      go_wp2
      go_quiet (fail)
      go_wp2
      replace hst := hst.drewN nq
      generalize wr.drewN nq = W1 at hst ⊢
      go_region_with ((first
        | (go_at_call 74; refine (HSM.out _).mono ?_; rintro e w5 ⟨rfl, rfl⟩)
        | (go_at_call 73; refine (HFO.out _).mono ?_; rintro e w5 ⟨rfl, hb5⟩)))
      replace hst := hst.drew.call hb5
      clear hb5 hbq HSM HFO w2 w3 w4 w55 b2 b3 x2l x2g x3l x3g
      have b0 := bat_get t 0 h40
      have h41 : 1 < t.size := by omega
      have h41i : (1 : Int) < t.size := by omega
      have b1 := bat_get t 1 h41
      have q0 := bat_lt t 0; have q1 := bat_lt t 1; have r0 := bat_nn t 0; have r1 := bat_nn t 1
      have HFR : Hid (Frd.frame t = (bat t 0, bat t 1, t.extract 4 (M + 4))) := Lib.hid (by unfold Frd.frame; rw [HM.out])
      generalize bat t 0 = y0 at *
      generalize bat t 1 = y1 at *
      have s0 : IntKind.i64.wrap y0 = y0 := IntWalk.i64_in _ (by omega)
      have s1 : IntKind.i64.wrap y1 = y1 := IntWalk.i64_in _ (by omega)
      have hstD := hst.drew
      clear q0 q1 r0 r1 hst
      go_wp2
      go_region_law (refine St.step1n frameE (by rfl) (.tmp 57) (.tmp 69) (by rfl) (by rfl) hstD (frameV (y0, y1, t.extract 4 (M + 4))) rfl _ 1 rfl (by simp) rfl (frame_one _) (by rw [List.length_map]; unfold maxLen; omega) (by rw [List.length_map]; omega) ?_; intro g6 n6 c6 w6 hst6)
      all_goals
        have hrs := HRS.out
        have hg5 := HG5.out
        rw [hrs, HM.out] at hg5
        have hrel : Frd.FeedRel 1048576 L R E w [] (.string (t.extract (M + 8) t.size)) (.slice (some ⟨g6, 0, none⟩) n6 c6) w6 :=
          ⟨_, out ++ [(y0, y1, t.extract 4 (M + 4))], rfl, by rw [List.length_append, List.length_singleton]; omega, by rw [List.map_append]; exact hst6, Lib.hid (by have h := HLN.out; rw [hrs, HM.out, HFR.out] at h; exact h)⟩
        have hms : (t.extract (M + 8) t.size).size < t.size := by omega
        clear HLN HRS HG5 hrs hg5 HFR HM
        go_wp2
        go_roundw
        case rel => first | exact hrel | ((repeat apply Exists.intro); exact ⟨hrel, rfl⟩)
        case measure => first | exact hms | (simp only [strLen]; exact hms) | (simp [strLen]; omega)
end Go.Proofs.Ytldapomcjfkeeaa
