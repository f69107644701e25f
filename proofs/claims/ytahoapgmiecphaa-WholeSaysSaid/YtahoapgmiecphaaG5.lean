/-
  Parts of the proof of WholeSays, put together: LexLex2 WsRun BdRef WsRef. (Helper texts.)
-/
import Derived.Test.YtahoapgmiecphaaG2
import Derived.Test.YtahoapgmiecphaaG3
import Derived.Test.YtahoapgmiecphaaG4
import Derived.Deep.RegionLaw
import Derived.Deep.LoopGhost
import Derived.Handy

/-
  Lex of package lexer: what it computes.
-/
namespace Go.Proofs.Ytahoapgmiecphaa
set_option linter.unusedVariables false
open Go.ChangeShapes Go.WideShapes Go.ChangeAt Go.RowKit

namespace Lx
def RetLex (E : Int) (x : List (Int × Int × Int) × Int) (w : World) (e : Ending) (w' : World) : Prop :=
  ∃ v, e = .returned (.tuple #[v, .int .i64 (if E = 0 ∧ 0 ≤ x.2 then x.2 else 0), .int .i64 (if E = 0 then if 0 ≤ x.2 then 9 else 0 else E)]) ∧ Own w' w.heap.size 172 3 v (if E = 0 then x.1.map tokV else []) ∧ Below w.heap.size w w'
theorem toks_in {of next tags} (n : Nat) (l : List UInt8) (k : Int) (hk : 0 ≤ k) (out) : -1 ≤ (toks of next tags n l k out).2 ∧ ((toks of next tags n l k out).2 ≤ k + l.length) := by
  induction n generalizing l k out with
  | zero => simp only [toks]; omega
  | succ n ih =>
    by_cases h : l = []
    · subst h; rw [toks_end]; simp; omega
    · by_cases h1 : (longest of next tags l).2 = 0
      · rw [toks_bad h h1]; simp; omega
      · rw [toks_step h h1]
        have h2 := longest_in of next tags l
        have h3 := ih (l.drop (longest of next tags l).2.toNat) (k + (longest of next tags l).2) (by omega) (out ++ [((longest of next tags l).1, k, k + (longest of next tags l).2)])
        rw [List.length_drop] at h3
        omega
/-- The loop of Lex. -/
def LexRel (of : List Int) (next : List (List Int)) (tags : List Int) (s : ByteArray) (X : List (Int × Int × Int) × Int) (w : World) (A : Array Value) (o i : Value) (wr : World) : Prop :=
  ∃ (k n : Nat) (out : List (Int × Int × Int)), k ≤ s.size ∧ s.size ≤ k + n ∧ out.length ≤ k ∧ i = .int .i64 k ∧ St w wr [aOwn 172 3 o (out.map tokV), aCel w.heap.size 61 A] ∧ Hid (toks of next tags n (s.data.toList.drop k) k out = X)
end Lx

set_option maxRecDepth 100000 in
set_option maxHeartbeats 4000000 in
theorem lex_any (A : Array Value) (of : List Int) (next : List (List Int)) (tags : List Int) (vn vt : Value) (s : ByteArray) (hs : s.size ≤ 140737488355328) (w : World) (hp : PackedAt w A of next tags vn vt) :
    Calls Try.prog 76 #[.agg A, .string s] w (Lx.RetLex (Lx.err of next tags s.size) (Lx.toks of next tags s.size s.data.toList 0 []) w) := by
  have hsz : (Try.prog.info? 61).map (·.size) = some A.size := by rw [hp.size]; kernel_rfl
  have HS := Lib.hid hsz; clear hsz
  have hst := (St.init w).alloc A 61
  have HP := Lib.hid hp; clear hp
  have HA := Lib.hid hst.celHeap
  have HST := Lib.hid hst; clear hst
  have HCK := Lib.hid (fun w' h => lexCheck_any A of next tags vn vt s hs w' h)
  have HON : Hid (Lx.err of next tags s.size = 0 → ∀ (f : Nat) (hf : f ≤ s.size) w' (h : PackedAt w' A of next tags vn vt), Calls Try.prog 126 #[.agg A, .string s, .int .i64 f] w' fun e w'' => e = .returned (Lx.oneV (Lx.longest of next tags (s.data.toList.drop f)) f) ∧ Below w'.heap.size w' w'') :=
    Lib.hid (fun h0 f hf w' h => one_any A of next tags vn vt s hs f hf w' h (Lx.err_zero h0).2.2)
  have HZ : Hid (Lx.err of next tags s.size = 0 → s.size ≤ 2000) := Lib.hid (fun h => (Lx.err_zero h).1)
  generalize hX : Lx.toks of next tags s.size s.data.toList 0 [] = X
  have HX : Hid (Lx.toks of next tags s.size (s.data.toList.drop 0) 0 [] = X) := Lib.hid (by rw [← hX, List.drop_zero])
  clear hX
  generalize hE : Lx.err of next tags s.size = E at *
  clear hE
  by_cases h0 : E = 0
  case neg =>
    have H0 : (E != 0) = true := by rw [bne_iff_ne]; exact h0
    have HE := Lib.hid h0; clear h0
    go_enter Try.func76, Try.ntmps76
    go_wp2_with (first
      | (refine wpList_load_row rfl 61 (.tmp 2) rfl w.heap.size rfl 61 A (0, 0) _ HA.out Try.underlying61 rfl HS.out ?_)
      | (go_at_call 125; refine (HCK.out _ (HP.out.below HST.out.bel)).mono ?_; rintro e w1 ⟨rfl, hb1⟩))
    refine bodyPost_ret (v := .tuple #[.slice none 0 0, .int .i64 0, .int .i64 E]) (by simp [results, Try.results76, go_sem]) rfl ⟨.slice none 0 0, ?_, ?_, (HST.out.call hb1).bel⟩
    · rw [if_neg (by rw [not_and]; exact fun h => absurd h HE.out), if_neg HE.out]
    · rw [if_neg HE.out]; exact Own.nil _ _ _ _
  · subst h0
    have hs2 := HZ.out rfl
    go_enter Try.func76, Try.ntmps76
    go_wp2_with (first
      | (refine wpList_load_row rfl 61 (.tmp 2) rfl w.heap.size rfl 61 A (0, 0) _ HA.out Try.underlying61 rfl HS.out ?_)
      | (go_at_call 125; refine (HCK.out _ (HP.out.below HST.out.bel)).mono ?_; rintro e w1 ⟨rfl, hb1⟩))
    have hst := (HST.out.call hb1).nilOwn 172 3
    clear hb1
    go_loopw [8, 9] (fun o i wr => Lx.LexRel of next tags s X w A o i wr) (fun _ i _ => s.size - (intOf i).toNat)
    case atStart => exact ⟨0, s.size, [], by omega, by omega, by simp, rfl, hst, HX⟩
    case round =>
      clear hst HX
      obtain ⟨k, n, out, hk, hkn, hol, rfl, hst, htk⟩ := hrel
      by_cases hlt : k < s.size
      · obtain ⟨m, rfl⟩ : ∃ m, n = m + 1 := ⟨n - 1, by omega⟩
        have hne : s.data.toList.drop k ≠ [] := by rw [bytes_drop s k hlt]; simp
        have hlin := Lx.longest_in of next tags (s.data.toList.drop k)
        rw [List.length_drop] at hlin
        simp only [Array.length_toList, ByteArray.size_data] at hlin
        have hon := HON.out trivial k hk
        generalize hy : Lx.longest of next tags (s.data.toList.drop k) = y at *
        have HY := Lib.hid hy
        have HTK := Lib.hid htk.out
        have HNE := Lib.hid hne
        have HO := Lib.hid hon
        clear hy htk hne hon
        obtain ⟨y1, y2⟩ := y
        obtain ⟨hl0, hl1⟩ := hlin
        simp only at hl0 hl1
        have HB := Lib.hid hst.get2.celHeap
        go_wp2_with (first
          | (refine wpList_load_row rfl 61 (.tmp 2) rfl w.heap.size rfl 61 A (0, 0) _ HB.out Try.underlying61 rfl HS.out ?_)
          | fail)
        go_at_call 126
        refine (HO.out _ (HP.out.below hst.bel)).mono ?_
        rintro e w3 ⟨rfl, hb3⟩
        replace hst := hst.call hb3
        clear hb3
        have htk := HTK.out
        by_cases hz : y2 = 0
        · subst hz
          rw [Lx.toks_bad HNE.out (by rw [HY.out])] at htk
          subst htk
          rw [Lx.oneV_no rfl]
          go_wp2
          refine bodyPost_ret (v := .tuple #[u8, .int .i64 k, .int .i64 9]) (by simp [results, Try.results76, go_sem]) rfl ⟨u8, ?_, ?_, (hst.skip _).bel⟩
          · rw [if_pos ⟨rfl, by simp⟩, if_pos rfl, if_pos (by simp)]
          · rw [if_pos rfl]; exact (hst.skip _).own
        · rw [Lx.toks_step HNE.out (by rw [HY.out]; exact hz), HY.out] at htk
          simp only at htk
          rw [Lx.oneV_yes hz]
          obtain ⟨y2, rfl⟩ := Int.eq_ofNat_of_zero_le hl0
          have hpos : 0 < y2 := by omega
          rw [Int.toNat_natCast, List.drop_drop] at htk
          have HTK2 := Lib.hid htk
          clear htk hz
          simp only
          have hst2 := (hst.alloc #[.int .i64 y1, .int .i64 k, .int .i64 (k + y2)] 172).get2
          go_wp2
          generalize w3.alloc (.cells #[.int .i64 y1, .int .i64 k, .int .i64 (k + y2)] 172) = w4 at hst2 ⊢
          obtain ⟨z0, z1, z2, _, _, _⟩ := hst2.get2.cel3
          obtain ⟨x0, x1, x2, _, _, _⟩ := hst2.drew.get2.cel3
          have hlt4 := World.block_lt_of_cell? _ _ z0
          have y2' := fun o => (hst2.drew.skip o).get2.celAt (i := 2) rfl
          go_region_law ((refine St.step1n tokE (by rfl) (.tmp 33) (.tmp 35) (by rfl) (by rfl) hst2.drew (tokV (y1, (k : Int), (k : Int) + y2)) rfl _ 1 rfl (by simp) rfl (tok_one _) (by rw [List.length_map]; unfold maxLen; omega) (by rw [List.length_map]; omega) ?_; intro g3 n3 cap3 w5 hst3; obtain ⟨z0, z1, z2, _, _, _⟩ := hst3.get2.cel3))
          all_goals
            go_wp2
            go_roundw
            case rel =>
              have hrel : Lx.LexRel of next tags s X w A (.slice (some ⟨g3, 0, none⟩) n3 cap3) (.int .i64 (k + y2)) w5 := ⟨k + y2, m, out ++ [(y1, (k : Int), (k : Int) + y2)], by omega, by omega, by simp; omega, by go_num, by rw [List.map_append]; exact hst3.get2.drop, by rw [Int.natCast_add]; exact HTK2⟩
              first | exact hrel | exact ⟨_, _, _, _, _, hrel, rfl, rfl, rfl, rfl, rfl⟩
            case measure => simp [intOf]; omega
      · have htk2 := htk.out
        rw [bytes_end s k (by omega), Lx.toks_end] at htk2
        subst htk2
        clear htk
        go_wp2
        refine bodyPost_ret (v := .tuple #[u8, .int .i64 0, .int .i64 0]) (by simp [results, Try.results76, go_sem]) rfl ⟨u8, ?_, ?_, hst.bel⟩
        · rw [if_neg (by simp), if_pos rfl, if_neg (by simp)]
        · rw [if_pos rfl]; exact hst.own
end Go.Proofs.Ytahoapgmiecphaa

/-
  Run of package whole: what it tells of a text.
-/
namespace Go.Proofs.Ytahoapgmiecphaa
set_option linter.unusedVariables false
set_option linter.unusedSimpArgs false
open Go.ChangeShapes Go.WideShapes Go.ChangeAt Go.RowKit

namespace Ws
theorem showsLen {w : World} {B : Nat} {e : TypeId} {size : Nat} {v : Value} {xs : List Value} (h : Own w B e size v xs) : ∃ ao cap, v = .slice ao xs.length cap := by
  rcases h.shape with ⟨h1, h2⟩ | ⟨g, cap, h1, _⟩
  · exact ⟨none, 0, by rw [h1, h2]; rfl⟩
  · exact ⟨_, _, h1⟩
theorem mk_zero {m : Mk.Md} (h : Mk.err m = 0) : Pkd.err m.2.1.1 m.2.1.2.1 m.2.1.2.2 = 0 ∧ Gr.err m.2.2.1.1 m.2.2.1.2.1 m.2.2.1.2.2 = 0 ∧ 0 < m.1.length ∧ m.1.length ≤ 20 ∧ Mk.ofGood m.2.2.1.1 m.1 ∧ Mk.tagsGood m.1.length m.2.1.2.2 ∧
    ((m.2.2.2.1 = 1 ∧ Rw.all m.2.2.1.1 m.2.2.1.2.1 m.2.2.1.2.2 m.2.2.2.2.1 = 0) ∨ (m.2.2.2.1 = 2 ∧ Tb.all m.2.2.1.1 m.2.2.1.2.1 m.2.2.1.2.2 m.2.2.2.2.2.1 m.2.2.2.2.2.2 = 0)) := by
  unfold Mk.err at h
  split at h
  · omega
  rename_i h1
  split at h
  · omega
  rename_i h2
  split at h
  · omega
  rename_i h3
  have h4 : Mk.ofGood m.2.2.1.1 m.1 ∧ Mk.tagsGood m.1.length m.2.1.2.2 := by
    constructor
    · exact Classical.byContradiction fun g => h3 (.inl g)
    · exact Classical.byContradiction fun g => h3 (.inr g)
  refine ⟨by omega, by omega, by omega, by omega, h4.1, h4.2, ?_⟩
  split at h
  · exact .inl ⟨by assumption, h⟩
  · split at h
    · exact .inr ⟨by assumption, h⟩
    · cases h
theorem made_below {w W : World} {A : Array Value} {m : Mk.Md} {v0 : Value} {Pc : Array Value} {vn vt vp vr va vg : Value} (h : MadeAt (fun b => b < w.heap.size) w A m v0 Pc vn vt vp vr va vg) (hb : Below w.heap.size w W) : MadeAt (fun b => b < W.heap.size) W A m v0 Pc vn vt vp vr va vg :=
  ⟨h.size, h.psize, h.cells, Enc.mono _ h.ofs (fun b hx => Nat.lt_of_lt_of_le hx hb.size) (fun b hx => hb.block b hx), h.packed.below hb, Enc.mono _ h.prods (fun b hx => Nat.lt_of_lt_of_le hx hb.size) (fun b hx => hb.block b hx), Enc.mono _ h.rows (fun b hx => Nat.lt_of_lt_of_le hx hb.size) (fun b hx => hb.block b hx), Enc.mono _ h.acts (fun b hx => Nat.lt_of_lt_of_le hx hb.size) (fun b hx => hb.block b hx), Enc.mono _ h.gts (fun b hx => Nat.lt_of_lt_of_le hx hb.size) (fun b hx => hb.block b hx), Enc.mono _ h.tags (fun b hx => Nat.lt_of_lt_of_le hx hb.size) (fun b hx => hb.block b hx)⟩
theorem resT {fn : Func} {p u : Tmp} (h : fn.results = #[.cell p 69, .tmp u]) (tmps : Array Value) (w : World) (g : Nat) {v0 v1 v2 : Value} (hp : tmps.getD p undef = .pointer (some ⟨g, 0, none⟩)) (c0 : w.cell? ⟨g, 0, none⟩ = some v0) (c1 : w.cell? ⟨g, 1, none⟩ = some v1) (c2 : w.cell? ⟨g, 2, none⟩ = some v2) :
    (results fn tmps).run Try.prog w = .ok (.tuple #[.agg #[v0, v1, v2], tmps.getD u undef]) w := by
  have hp2 : tmps[p]?.getD undef = .pointer (some ⟨g, 0, none⟩) := by simpa using hp
  simp [results, h, hp2, Sem.run_bind, Result.andThen, go_sem, c0, c1, c2]
/-- What Run leaves. -/
def RetRun (E : Int) (x : List Ev × Int × Int) (w : World) (e : Ending) (w' : World) : Prop := ∃ v, e = .returned (.tuple #[.agg #[v, .int .i64 x.2.1, .int .i64 x.2.2], .int .i64 E]) ∧ St w w' [aOwn 76 2 v (x.1.map pairV)]
theorem evtsR {w0 w : World} {μ : List Asrt} {v : Value} {l : List Ev} (h : St w0 w μ) (i : Nat) (hA : μ[i]? = some (aOwn 76 2 v (l.map pairV))) (hl : l.length ≤ 5000) : (Enc.evt.sl 16).R (fun b => b < w.heap.size) w [v] l :=
  Own.enc (En := Enc.evt) (bytes := 16) (f := pairV) (h.ownAt i hA) rfl (fun _ _ => rfl) (fun b hb => ((h.nth i hA).fpOwn b hb).2) (by omega)
section
variable {σ : Type} {P : Par σ} {of : List Int} {L : List (Int × Int × Int)} {st : σ} {out : List Ev}
theorem run_nil {i : Nat} (h : L.length ≤ i) : run P of (L.drop i) st out = .inr (st, out) := by rw [List.drop_eq_nil_iff.2 h, run]
theorem drop_at {i : Nat} (h : i < L.length) : L.drop i = L.getD i (0, 0, 0) :: L.drop (i + 1) := by
  rw [List.drop_eq_getElem_cons h]; simp [List.getD, List.getElem?_eq_getElem h]
theorem run_skip {i : Nat} (h : i < L.length) (h1 : of.getD (L.getD i (0, 0, 0)).1.toNat 0 < 0) : run P of (L.drop i) st out = run P of (L.drop (i + 1)) st out := by rw [drop_at h, run, if_pos h1]
theorem run_bad {i : Nat} (h : i < L.length) (h1 : ¬ of.getD (L.getD i (0, 0, 0)).1.toNat 0 < 0) (h2 : (P.push st (of.getD (L.getD i (0, 0, 0)).1.toNat 0).toNat).1 ≠ 0) :
    run P of (L.drop i) st out = .inl (out, (P.push st (of.getD (L.getD i (0, 0, 0)).1.toNat 0).toNat).1, (L.getD i (0, 0, 0)).2.1) := by rw [drop_at h, run, if_neg h1, if_pos h2]
theorem run_go {i : Nat} (h : i < L.length) (h1 : ¬ of.getD (L.getD i (0, 0, 0)).1.toNat 0 < 0) (h2 : (P.push st (of.getD (L.getD i (0, 0, 0)).1.toNat 0).toNat).1 = 0) :
    run P of (L.drop i) st out = run P of (L.drop (i + 1)) (P.push st (of.getD (L.getD i (0, 0, 0)).1.toNat 0).toNat).2.1 (out ++ (P.push st (of.getD (L.getD i (0, 0, 0)).1.toNat 0).toNat).2.2) := by rw [drop_at h, run, if_neg h1, if_neg (by omega)]
end
end Ws

set_option maxRecDepth 100000 in
set_option maxHeartbeats 4000000 in
theorem wsRun_bad (A : Array Value) (m : Mk.Md) (v0 : Value) (Pc : Array Value) (vn vt vp vr va vg : Value) (s : ByteArray) (w : World) (hm : MadeAt (fun b => b < w.heap.size) w A m v0 Pc vn vt vp vr va vg) (he : Mk.err m ≠ 0) :
    Calls Try.prog 25 #[.agg A, .string s] w (Ws.RetRun (Mk.err m) ([], 0, 0) w) := by
  have hst := ((St.init w).alloc A 66).alloc #[.slice none 0 0, .int .i64 0, .int .i64 0] 69
  simp only [World.size_alloc] at hst
  have hsz : (Try.prog.info? 66).map (fun x => x.size) = some A.size := by rw [hm.size]; kernel_rfl
  have HS := Lib.hid hsz
  have HA := Lib.hid (hst.heapAt 1 rfl)
  have HR := Lib.hid (fun W (hW : Below w.heap.size w W) => specRight_any A m v0 Pc vn vt vp vr va vg W (fun b => b < W.heap.size) (fun b h => h) (Ws.made_below hm hW))
  have heb : (Mk.err m != 0) = true := by rw [bne_iff_ne]; exact he
  generalize Mk.err m = E at *
  have HST := Lib.hid hst
  clear hst hm hsz he
  go_enter Try.func25, Try.ntmps25
  go_wp2_with (refine wpList_load_row rfl 66 (.tmp 2) rfl w.heap.size rfl 66 A (0, 0) _ HA.out Try.underlying66 rfl HS.out ?_)
  go_at_call 75
  refine (HR.out _ HST.out.bel).mono ?_
  rintro e1 w1 ⟨rfl, hb1⟩
  have hst := HST.out.call hb1
  obtain ⟨c0, c1, c2, f0, f1, f2⟩ := hst.cel3
  have HS1 := Lib.hid (((hst.setCel 0 (.slice none 0 0)).setCel 1 (.int .i64 0)).setCel 2 (.int .i64 0))
  clear hst hb1
  go_wp2_with (fail)
  obtain ⟨d0, d1, d2, -, -, -⟩ := HS1.out.cel3
  refine bodyPost_ret (Ws.resT rfl _ _ (w.heap.size + 1) rfl d0 d1 d2) rfl ?_
  exact ⟨_, rfl, (HS1.out.drop.drop).nilOwn _ _⟩

set_option maxRecDepth 100000 in
set_option maxHeartbeats 4000000 in
theorem wsRun_long (A : Array Value) (m : Mk.Md) (v0 : Value) (Pc : Array Value) (vn vt vp vr va vg : Value) (s : ByteArray) (w : World) (hm : MadeAt (fun b => b < w.heap.size) w A m v0 Pc vn vt vp vr va vg) (he : Mk.err m = 0) (hs : 2000 < s.size) :
    Calls Try.prog 25 #[.agg A, .string s] w (Ws.RetRun 2 ([], 0, 0) w) := by
  have hst := ((St.init w).alloc A 66).alloc #[.slice none 0 0, .int .i64 0, .int .i64 0] 69
  simp only [World.size_alloc] at hst
  have hsz : (Try.prog.info? 66).map (fun x => x.size) = some A.size := by rw [hm.size]; kernel_rfl
  have HS := Lib.hid hsz
  have HA := Lib.hid (hst.heapAt 1 rfl)
  have HR := fun W (hW : Below w.heap.size w W) => specRight_any A m v0 Pc vn vt vp vr va vg W (fun b => b < W.heap.size) (fun b h => h) (Ws.made_below hm hW)
  rw [he] at HR
  replace HR := Lib.hid HR
  have hsI : (2000 : Int) < (s.size : Int) := by omega
  have HST := Lib.hid hst
  clear hst hm hsz he
  go_enter Try.func25, Try.ntmps25
  go_wp2_with (refine wpList_load_row rfl 66 (.tmp 2) rfl w.heap.size rfl 66 A (0, 0) _ HA.out Try.underlying66 rfl HS.out ?_)
  go_at_call 75
  refine (HR.out _ HST.out.bel).mono ?_
  rintro e1 w1 ⟨rfl, hb1⟩
  have hst := HST.out.call hb1
  obtain ⟨c0, c1, c2, f0, f1, f2⟩ := hst.cel3
  have HS1 := Lib.hid (((hst.setCel 0 (.slice none 0 0)).setCel 1 (.int .i64 0)).setCel 2 (.int .i64 0))
  clear hst hb1
  go_wp2_with (fail)
  obtain ⟨d0, d1, d2, -, -, -⟩ := HS1.out.cel3
  refine bodyPost_ret (Ws.resT rfl _ _ (w.heap.size + 1) rfl d0 d1 d2) rfl ?_
  exact ⟨_, rfl, (HS1.out.drop.drop).nilOwn _ _⟩

set_option maxRecDepth 100000 in
set_option maxHeartbeats 4000000 in
theorem wsRunC (A : Array Value) (m : Mk.Md) (v0 : Value) (Pc : Array Value) (vn vt vp vr va vg : Value) (s : ByteArray) (w : World) (hm : MadeAt (fun b => b < w.heap.size) w A m v0 Pc vn vt vp vr va vg) (he0 : Mk.err m = 0) (hmode : m.2.2.2.1 = 1) (he : Rw.all m.2.2.1.1 m.2.2.1.2.1 m.2.2.1.2.2 m.2.2.2.2.1 = 0) (hs : s.size ≤ 2000) :
    Calls Try.prog 25 #[.agg A, .string s] w (Ws.RetRun 0 (Ws.whole (Ws.climber m.2.2.1.2.2 m.2.2.2.2.1 m.2.2.1.1.toNat) m.1 (Lx.toks m.2.1.1 m.2.1.2.1 m.2.1.2.2 s.size s.data.toList 0 []) s.size ([(false, 0, 2, 0)], 0)) w) := by
  obtain ⟨z1, z2, z3, z4, z5, z6, -⟩ := Ws.mk_zero he0
  have hgr := Gr.err_zero z2
  have htt : ((m.2.2.1.1.toNat : Nat) : Int) = m.2.2.1.1 := by omega
  have ht0 : 0 ≤ m.2.2.1.1 := hgr.1
  have hst := ((St.init w).alloc A 66).alloc #[.slice none 0 0, .int .i64 0, .int .i64 0] 69
  simp only [World.size_alloc] at hst
  have hsz : (Try.prog.info? 66).map (fun x => x.size) = some A.size := by rw [hm.size]; kernel_rfl
  have hpz : (Try.prog.info? 61).map (fun x => x.size) = some Pc.toList.length := by rw [Array.length_toList, hm.psize]; kernel_rfl
  have HS := Lib.hid hsz; have HPZ := Lib.hid hpz
  have HA := Lib.hid (hst.heapAt 1 rfl)
  have HPK : Hid (∀ (W : World) (g : Nat), W.heap[g]? = some (.cells A 66 (0, 0)) → W.rangeAt g 1 Pc.toList) := Lib.hid (fun W g h => (hm.box h).pk)
  have HR := fun W (hW : Below w.heap.size w W) => specRight_any A m v0 Pc vn vt vp vr va vg W (fun b => b < W.heap.size) (fun b h => h) (Ws.made_below hm hW)
  rw [he0] at HR
  replace HR := Lib.hid HR
  have HLEX := fun W (hW : Below w.heap.size w W) => lex_any Pc m.2.1.1 m.2.1.2.1 m.2.1.2.2 vn vt s (by omega) W (hm.packed.below hW)
  rw [Lx.err_ok z1 (by omega)] at HLEX
  replace HLEX := Lib.hid HLEX
  have HBEG := Lib.hid (fun W => wsBegunC A m v0 Pc vn vt vp vr va vg (fun b => b < w.heap.size) w W hm hmode)
  have HPUSH := Lib.hid (fun g => wsCPush w A m v0 Pc vn vt vp vr va vg hm he m.2.2.1.1.toNat htt g)
  have HEND := Lib.hid (fun g => wsCEnd w A m v0 Pc vn vt vp vr va vg hm he m.2.2.1.1.toNat htt g)
  have htk := Ws.toks_ok (of := m.2.1.1) (next := m.2.1.2.1) (tags := m.2.1.2.2) z3 z6 s.size s.size s.data.toList 0 [] (by omega) (by simp) (by simp) (fun x hx => by cases hx)
  have hin := Lx.toks_in (of := m.2.1.1) (next := m.2.1.2.1) (tags := m.2.1.2.2) s.size s.data.toList 0 (by omega) []
  have HOK : Hid (∀ (j : Nat) (st : (List Cl.T × Int)) (c : Nat), (Ws.okC m.2.2.1.1 m.2.2.1.2.1 m.2.2.1.2.2.length) j st → j ≤ 5000 → (c : Int) ≤ m.2.2.1.1 → (((Ws.climber m.2.2.1.2.2 m.2.2.2.2.1 m.2.2.1.1.toNat).push st c).1 = 0 → (Ws.okC m.2.2.1.1 m.2.2.1.2.1 m.2.2.1.2.2.length) (j + 1) ((Ws.climber m.2.2.1.2.2 m.2.2.2.2.1 m.2.2.1.1.toNat).push st c).2.1) ∧ ((Ws.climber m.2.2.1.2.2 m.2.2.2.2.1 m.2.2.1.1.toNat).push st c).2.2.length ≤ 2001 ∧ ((Ws.climber m.2.2.1.2.2 m.2.2.2.2.1 m.2.2.1.1.toNat).fin st).2.length ≤ 2001) :=
    Lib.hid (fun j st c hk hj hc => ⟨fun h0 => Ws.okC_push hk he hc h0, Ws.okC_len hk⟩)
  have HBG : Hid ((Ws.okC m.2.2.1.1 m.2.2.1.2.1 m.2.2.1.2.2.length) 0 ([(false, 0, 2, 0)], 0)) := Lib.hid (Ws.okC_begin he)
  obtain ⟨ao, bo, oo, co, hv0, -, o3, o4⟩ := Enc.sl1 (En := Enc.int .i64) (Value.int .i64) (fun _ _ _ h => h.1) rfl 0 hm.ofs
  subst hv0
  have O3 : Hid (∀ (q : Int), 0 ≤ q → q < m.1.length → ao = some ⟨bo, oo, none⟩ ∧ (∀ W, Below w.heap.size w W → W.cell? ⟨bo, oo + q.toNat, none⟩ = some (.int .i64 (m.1.getD q.toNat 0))) ∧ m.1.getD q.toNat 0 < m.2.2.1.1 ∧ -1 ≤ m.1.getD q.toNat 0) :=
    Lib.hid (fun q h0 h1 => ⟨(o3 (by omega)).1, fun W hW => bkeep hW (o4 q.toNat (by omega)).1, (z5 q.toNat (by omega)).2, (z5 q.toNat (by omega)).1⟩)
  have a0 := hm.arr.1
  have HA0 : Hid (∀ (W : World) (g : Nat), W.heap[g]? = some (.cells A 66 (0, 0)) → W.cell? ⟨g, 0, none⟩ = some (.slice ao m.1.length co)) := Lib.hid (fun W g h => (hm.box h).c0)
  generalize hP : (Ws.climber m.2.2.1.2.2 m.2.2.2.2.1 m.2.2.1.1.toNat) = P at *
  generalize hok : (Ws.okC m.2.2.1.1 m.2.2.1.2.1 m.2.2.1.2.2.length) = ok at *
  generalize hX : (Lx.toks m.2.1.1 m.2.1.2.1 m.2.1.2.2 s.size s.data.toList 0 []) = X at *
  generalize m.1 = of at *
  generalize m.2.2.1.1 = t at *
  have HTK := Lib.hid htk
  obtain ⟨L, k⟩ := X
  simp only at HTK hin
  have hsI : (s.size : Int) ≤ 2000 := by omega
  have HLL := Lib.hid (show L.length ≤ 2000 by have := HTK.out.2; omega)
  have HKK := Lib.hid hin
  have HST := Lib.hid hst
  clear hst hm he he0 hmode hsz hpz z1 z2 z3 z4 z5 z6 hgr htt htk hin o3 o4 a0 hP hok hX hs
  go_enter Try.func25, Try.ntmps25
  go_wp2_with (refine wpList_load_row rfl 66 (.tmp 2) rfl w.heap.size rfl 66 A (0, 0) _ HA.out Try.underlying66 rfl HS.out ?_)
  go_at_call 75
  refine (HR.out _ HST.out.bel).mono ?_
  rintro e1 w1 ⟨rfl, hb1⟩
  have HST1 := Lib.hid (HST.out.call hb1)
  have HA1 := Lib.hid (HST1.out.heapAt 1 rfl)
  clear hb1
  go_wp2_with (refine wpList_load_mid rfl 61 (.tmp 29) rfl w.heap.size 1 rfl Pc.toList _ (HPK.out _ _ HA1.out) Try.underlying61 rfl HPZ.out ?_)
  go_at_call 76
  refine (HLEX.out _ HST1.out.bel).mono ?_
  rintro e2 w2 ⟨vt2, rfl, ho2, hb2⟩
  rw [if_pos rfl] at ho2
  simp only [true_and]
  generalize hlx : (if 0 ≤ k then (9 : Int) else 0) = lx
  generalize hat : (if 0 ≤ k then k else (0 : Int)) = at0
  have HLX := Lib.hid (And.intro hlx hat)
  clear hlx hat
  have HST2 := Lib.hid (HST1.out.pushOwn hb2 ho2)
  have HA2 := Lib.hid (HST2.out.heapAt 2 rfl)
  clear ho2 hb2
  go_wp2_with (refine wpList_load_row rfl 66 (.tmp 2) rfl w.heap.size rfl 66 A (0, 0) _ HA2.out Try.underlying66 rfl HS.out ?_)
  go_at_call 77
  refine (HBEG.out _).mono ?_
  rintro e3 w3 ⟨g, X0, rfl, hin0, hr3⟩
  obtain ⟨at2, ct2, hvt⟩ := Ws.showsLen (HST2.out.ownAt 0 rfl)
  rw [List.length_map] at hvt
  subst hvt
  have HST3 := Lib.hid ((HST2.out.joined hr3).alloc #[.slice none 0 0, .int .i64 0, .int .i64 0] 69)
  generalize hgo : w3.heap.size = go at HST3
  have HIN0 := Lib.hid hin0
  clear hr3 hin0
  go_wp2_with (fail)

  go_loopg [40] L.length (fun gk v40 wr => ∃ (i j : Nat) (st : (List Cl.T × Int)) (out : List Ws.Ev) (X : Asrt) (a : Option Addr) (n c : Nat), v40 = .int .i64 (i : Int) ∧ i ≤ L.length ∧ gk = L.length - i ∧ Hid (Ws.run P of (L.drop i) st out = Ws.run P of L ([(false, 0, 2, 0)], 0) [] ∧ ok j st ∧ j ≤ i ∧ Ws.InC g 228 A #[] st X ∧ out.length ≤ 2001 * i) ∧ St w wr (X :: aCel go 69 #[.slice a n c, .int .i64 0, .int .i64 0] :: aOwn 76 2 (.slice a n c) (out.map pairV) :: aOwn 172 3 (.slice at2 L.length ct2) (L.map tokV) :: aCel (w.heap.size + 1) 69 #[.slice none 0 0, .int .i64 0, .int .i64 0] :: aCel w.heap.size 66 A :: []))
  case atStart =>
    refine ⟨0, 0, ([(false, 0, 2, 0)], 0), [], X0, none, 0, 0, rfl, Nat.zero_le _, rfl, Lib.hid ⟨by rw [List.drop_zero], HBG.out, Nat.le_refl _, HIN0.out, by simp⟩, ?_⟩
    exact (HST3.out.nilOwn 76 2).pick [2, 1, 0, 3, 4, 5] 6 rfl rfl
  case round =>
    clear HST HST1 HST2 HST3 HA HA1 HA2 HIN0 HR HLEX HBEG HPK HBG
    obtain ⟨i, j, st, out, X, a, n, c, rfl, hi, hgk, HL, hst⟩ := hrel
    have HGK := Lib.hid hgk
    have HSL := Lib.hid hst
    clear hst hgk
    have hLL := HLL.out
    have x0lt : w.heap.size < wr.heap.size := ((HSL.out.nth 5 rfl).lo _ (.head _) _ (.head _)).2
    by_cases hlt : i < L.length
    · have hltI : (i : Int) < (L.length : Int) := by omega
      obtain ⟨gt, rfl⟩ := (HSL.out.ownAt 3 rfl).addr (by rw [List.length_map]; omega)
      have tk : ∀ (q : Nat) (hq : q < 3) (v : Value), (tokV (L.getD i (0, 0, 0))).cells.toList[q]? = some v → wr.cell? ⟨gt, i * 3 + q, none⟩ = some v := fun q hq v hv => (HSL.out.nth 3 rfl).cellsN (f := tokV) (fun _ => rfl) i hlt (0, 0, 0) q hq v hv
      have t0 : wr.cell? ⟨gt, i * 3, none⟩ = _ := tk 0 (by decide) _ rfl
      have t1 := tk 1 (by decide) _ rfl
      have t2 := tk 2 (by decide) _ rfl
      have hmem := HTK.out.1 (L.getD i (0, 0, 0)) (by rw [List.getD_eq_getElem?_getD, List.getElem?_eq_getElem hlt]; exact List.getElem_mem _)
      obtain ⟨q0, q1, q2, q3⟩ := hmem
      obtain ⟨rfl, hcell, hc1, hc2⟩ := O3.out _ q0 q1
      have HRUN := Lib.hid (And.intro (fun st out => Ws.run_skip (P := P) (of := of) (st := st) (out := out) hlt) (And.intro (fun st out => Ws.run_bad (P := P) (of := of) (st := st) (out := out) hlt) (fun st out => Ws.run_go (P := P) (of := of) (st := st) (out := out) hlt)))
      have ofc := hcell wr HSL.out.bel
      have a0 := HA0.out wr w.heap.size (HSL.out.heapAt 5 rfl)
      have HCELL := Lib.hid hcell
      generalize L.getD i (0, 0, 0) = kk at *
      obtain ⟨r, f, to3⟩ := kk
      simp only at t0 t1 t2 q0 q1 q2 q3 hc1 hc2 ofc HRUN HCELL
      obtain ⟨r, rfl⟩ := Int.eq_ofNat_of_zero_le q0
      rw [Int.toNat_natCast] at ofc hc1 hc2 HRUN HCELL
      generalize hcc : of.getD r 0 = cc at *
      have blt := World.block_lt_of_cell? _ _ ofc
      have glt := World.block_lt_of_cell? _ _ t0
      have hrlt : r < of.length := by omega
      simp only at blt glt
      have HST4 := Lib.hid (HSL.out.alloc #[.int .i64 (r : Int), .int .i64 f, .int .i64 to3] 172)
      clear tk hcell hcc
      by_cases hneg : cc < 0
      · have hd : decide (cc < 0) = true := decide_eq_true hneg
        go_wp2_with (fail)
        go_roundg (L.length - (i + 1))
        case measure => have := HGK.out; omega
        case rel => exact ⟨i + 1, j, st, out, X, a, n, c, by go_num, by omega, rfl, Lib.hid ⟨(HRUN.out.1 st out hneg).symm.trans HL.out.1, HL.out.2.1, Nat.le_succ_of_le HL.out.2.2.1, HL.out.2.2.2.1, by have := HL.out.2.2.2.2; omega⟩, HST4.out.pick [1, 2, 3, 4, 5, 6] 7 rfl rfl⟩
      · have hd : decide (cc < 0) = false := decide_eq_false hneg
        obtain ⟨c2, rfl⟩ := Int.eq_ofNat_of_zero_le (show 0 ≤ cc by omega)
        go_wp2_with (fail)
        clear ofc a0 t0 t1 t2 hd
        have HNEG := Lib.hid hneg
        rw [Int.toNat_natCast] at HRUN
        have hj5 : j ≤ 5000 := by have := HL.out.2.2.1; have := HLL.out; omega
        have HOKJ := Lib.hid (HOK.out j st c2 HL.out.2.1 hj5 (by omega))
        have HSTX := Lib.hid (HST4.out.pick (ρ := X :: aCel wr.heap.size 172 #[.int .i64 (r : Int), .int .i64 f, .int .i64 to3] :: aCel go 69 #[.slice a n c, .int .i64 0, .int .i64 0] :: aOwn 76 2 (.slice a n c) (out.map pairV) :: aOwn 172 3 (.slice (some ⟨gt, 0, none⟩) L.length ct2) (L.map tokV) :: aCel (w.heap.size + 1) 69 #[.slice none 0 0, .int .i64 0, .int .i64 0] :: aCel w.heap.size 66 A :: []) [1, 0, 2, 3, 4, 5, 6] 7 rfl rfl)
        generalize hgb : wr.heap.size = gb at HSTX ⊢
        generalize wr.alloc _ = w4 at HSTX ⊢
        have y0 := HA0.out w4 w.heap.size (HSTX.out.heapAt 6 rfl)
        have y1 := (HSTX.out.at3 1 rfl).1
        have y2 := HCELL.out w4 HSTX.out.bel
        have HC := HPUSH.out g w w4.drew _ j st X c2 HSTX.out.bel.drew (Nat.le_refl _) HL.out.2.2.2.1 HL.out.2.1 hj5 (by omega) HSTX.out.drew
        replace HC := Lib.hid HC
        generalize hpr : P.push st c2 = pr at HC HRUN HOKJ
        obtain ⟨er, st2, out2⟩ := pr
        simp only at HC
        clear HST4 HSL x0lt glt blt hgb
        have hnil : ∀ (q : Nat) (W : World), (nilAhead (q + 1) 222 (.pointer (some ⟨g, 0, none⟩)) "pushmill/whole.push").run Try.prog W = .ok (some false) W := fun q W => by kernel_rfl
        refine wp_region_held_drew (S := (fun w' => w'.cell? ⟨w.heap.size, 0, none⟩ = some (.slice (some ⟨bo, oo, none⟩) of.length co) ∧ w'.cell? ⟨gb, 0, none⟩ = some (.int .i64 (r : Int)) ∧ w'.cell? ⟨bo, oo + r, none⟩ = some (.int .i64 (c2 : Int)))) (by kernel_rfl) ?_ (fun hHeld => ?_)
        · (try dsimp only); (first | exact ⟨y0, y1, y2⟩ | exact ⟨z0, z1, z2⟩)

        refine wpAnyH_take (i := 0) (v := ?_) rfl (by kernel_rfl) (by kernel_rfl) (by kernel_rfl) (fun _ _ _ h => h) (Or.inl ⟨by rfl, ?_⟩) (by assumption) ?_
        rotate_left; focus (intro w hSw; (try dsimp only at hSw); go_simp; try (with_reducible rfl); done)
        try simp only [List.getElem_toArray, List.getElem_cons_zero, List.getElem_cons_succ, Act.put, List.setIfInBounds_toArray, List.set_cons_zero, List.set_cons_succ]
        refine wpAnyH_take (i := 1) (v := ?_) rfl (by kernel_rfl) (by kernel_rfl) (by kernel_rfl) (fun _ _ _ h => h) (Or.inl ⟨by rfl, ?_⟩) (by assumption) ?_
        rotate_left; focus (intro w hSw; (try dsimp only at hSw); go_simp; try (with_reducible rfl); done)
        try simp only [List.getElem_toArray, List.getElem_cons_zero, List.getElem_cons_succ, Act.put, List.setIfInBounds_toArray, List.set_cons_zero, List.set_cons_succ]
        refine wpAnyH_take (i := 2) (v := ?_) rfl (by kernel_rfl) (by kernel_rfl) (by kernel_rfl) (fun _ _ _ h => h) (Or.inl ⟨by rfl, ?_⟩) (by assumption) ?_
        rotate_left; focus (intro w hSw; (try dsimp only at hSw); go_simp; try (with_reducible rfl); done)
        try simp only [List.getElem_toArray, List.getElem_cons_zero, List.getElem_cons_succ, Act.put, List.setIfInBounds_toArray, List.set_cons_zero, List.set_cons_succ]
        refine wpAnyH_take (i := 3) (v := ?_) rfl (by kernel_rfl) (by kernel_rfl) (by kernel_rfl) (fun _ _ _ h => h) (Or.inl ⟨by rfl, ?_⟩) (by assumption) ?_
        rotate_left; focus (intro w hSw; (try dsimp only at hSw); go_simp; try (with_reducible rfl); done)
        try simp only [List.getElem_toArray, List.getElem_cons_zero, List.getElem_cons_succ, Act.put, List.setIfInBounds_toArray, List.set_cons_zero, List.set_cons_succ]
        refine wpAnyH_take (i := 4) (v := ?_) rfl (by kernel_rfl) (by kernel_rfl) (by kernel_rfl) (fun _ _ _ h => h) (Or.inl ⟨by rfl, ?_⟩) (by assumption) ?_
        rotate_left; focus (intro w hSw; (try dsimp only at hSw); go_simp; try (with_reducible rfl); done)
        try simp only [List.getElem_toArray, List.getElem_cons_zero, List.getElem_cons_succ, Act.put, List.setIfInBounds_toArray, List.set_cons_zero, List.set_cons_succ]
        refine wpAnyH_take (i := 5) (v := ?_) rfl (by kernel_rfl) (by kernel_rfl) (by kernel_rfl) (fun _ _ _ h => h) (Or.inl ⟨by rfl, ?_⟩) (by assumption) ?_
        rotate_left; focus (intro w hSw; (try dsimp only at hSw); go_simp; try (with_reducible rfl); done)
        try simp only [List.getElem_toArray, List.getElem_cons_zero, List.getElem_cons_succ, Act.put, List.setIfInBounds_toArray, List.set_cons_zero, List.set_cons_succ]
        refine wpAnyH_take (i := 6) (v := ?_) rfl (by kernel_rfl) (by kernel_rfl) (by kernel_rfl) (fun _ _ _ h => h) (Or.inl ⟨by rfl, ?_⟩) (by assumption) ?_
        rotate_left; focus (intro w hSw; (try dsimp only at hSw); go_simp; try (with_reducible rfl); done)
        try simp only [List.getElem_toArray, List.getElem_cons_zero, List.getElem_cons_succ, Act.put, List.setIfInBounds_toArray, List.set_cons_zero, List.set_cons_succ]
        refine wpAnyH_take (i := 7) (v := ?_) rfl (by kernel_rfl) (by kernel_rfl) (by kernel_rfl) (fun _ _ _ h => h) (Or.inl ⟨by rfl, ?_⟩) (by assumption) ?_
        rotate_left; focus (intro w hSw; (try dsimp only at hSw); go_simp; try (with_reducible rfl); done)
        try simp only [List.getElem_toArray, List.getElem_cons_zero, List.getElem_cons_succ, Act.put, List.setIfInBounds_toArray, List.set_cons_zero, List.set_cons_succ]
        refine wpAnyH_take (i := 8) (v := ?_) rfl (by kernel_rfl) (by kernel_rfl) (by kernel_rfl) (fun _ _ _ h => h) (Or.inl ⟨by rfl, ?_⟩) (by assumption) ?_
        rotate_left; focus (intro w hSw; (try dsimp only at hSw); go_simp; try (with_reducible rfl); done)
        try simp only [List.getElem_toArray, List.getElem_cons_zero, List.getElem_cons_succ, Act.put, List.setIfInBounds_toArray, List.set_cons_zero, List.set_cons_succ]
        refine wpAnyH_take (i := 9) (v := ?_) rfl (by kernel_rfl) (by kernel_rfl) (by kernel_rfl) (fun _ _ _ h => h) (Or.inl ⟨by rfl, ?_⟩) (by assumption) ?_
        rotate_left; focus (intro w hSw; (try dsimp only at hSw); go_simp; try (with_reducible rfl); done)
        try simp only [List.getElem_toArray, List.getElem_cons_zero, List.getElem_cons_succ, Act.put, List.setIfInBounds_toArray, List.set_cons_zero, List.set_cons_succ]
        refine wpAnyH_ready (rs := [10]) (by kernel_rfl) (by simp) ?_
        refine AllReadyH.cons rfl (fun K hK => ?_) AllReadyH.nil
        go_simp
        (go_invoke; go_simp; go_at_call 205; refine HC.out.mono ?_; rintro e5 w5 ⟨ve, X2, rfl, hin2, hst5⟩; have z0 := HA0.out w5 w.heap.size (hst5.heapAt 7 rfl); have z1 := (hst5.at3 2 rfl).1; have z2 := HCELL.out w5 hst5.bel; have HIN2 := Lib.hid hin2; have HST5 := Lib.hid hst5; clear hin2 hst5)
        refine hK.out _ _ ?_ (fun hHeld => ?_)
        · (try dsimp only); (first | exact ⟨y0, y1, y2⟩ | exact ⟨z0, z1, z2⟩)
        clear hK K
        try simp only [List.getElem_toArray, List.getElem_cons_zero, List.getElem_cons_succ, Act.put, List.setIfInBounds_toArray, List.set_cons_zero, List.set_cons_succ]
        refine wpAnyH_take (i := 11) (v := ?_) rfl (by kernel_rfl) (by kernel_rfl) (by kernel_rfl) (fun _ _ _ h => h) (Or.inl ⟨by rfl, ?_⟩) (by assumption) ?_
        rotate_left; focus (intro w hSw; (try dsimp only at hSw); go_simp; try (with_reducible rfl); done)
        try simp only [List.getElem_toArray, List.getElem_cons_zero, List.getElem_cons_succ, Act.put, List.setIfInBounds_toArray, List.set_cons_zero, List.set_cons_succ]
        refine wpAnyH_take (i := 12) (v := ?_) rfl (by kernel_rfl) (by kernel_rfl) (by kernel_rfl) (fun _ _ _ h => h) (Or.inl ⟨by rfl, ?_⟩) (by assumption) ?_
        rotate_left; focus (intro w hSw; (try dsimp only at hSw); go_simp; try (with_reducible rfl); done)
        try simp only [List.getElem_toArray, List.getElem_cons_zero, List.getElem_cons_succ, Act.put, List.setIfInBounds_toArray, List.set_cons_zero, List.set_cons_succ]
        refine wpAnyH_take (i := 13) (v := ?_) rfl (by kernel_rfl) (by kernel_rfl) (by kernel_rfl) (fun _ _ _ h => h) (Or.inl ⟨by rfl, ?_⟩) (by assumption) ?_
        rotate_left; focus (intro w hSw; (try dsimp only at hSw); go_simp; try (with_reducible rfl); done)
        try simp only [List.getElem_toArray, List.getElem_cons_zero, List.getElem_cons_succ, Act.put, List.setIfInBounds_toArray, List.set_cons_zero, List.set_cons_succ]
        refine wpAnyH_take (i := 14) (v := ?_) rfl (by kernel_rfl) (by kernel_rfl) (by kernel_rfl) (fun _ _ _ h => h) (Or.inl ⟨by rfl, ?_⟩) (by assumption) ?_
        rotate_left; focus (intro w hSw; (try dsimp only at hSw); go_simp; try (with_reducible rfl); done)
        try simp only [List.getElem_toArray, List.getElem_cons_zero, List.getElem_cons_succ, Act.put, List.setIfInBounds_toArray, List.set_cons_zero, List.set_cons_succ]
        refine wpAnyH_take (i := 15) (v := ?_) rfl (by kernel_rfl) (by kernel_rfl) (by kernel_rfl) (fun _ _ _ h => h) (Or.inl ⟨by rfl, ?_⟩) (by assumption) ?_
        rotate_left; focus (intro w hSw; (try dsimp only at hSw); go_simp; try (with_reducible rfl); done)
        try simp only [List.getElem_toArray, List.getElem_cons_zero, List.getElem_cons_succ, Act.put, List.setIfInBounds_toArray, List.set_cons_zero, List.set_cons_succ]
        refine wpAnyH_done (by kernel_rfl) ?_ _
        clear y0 y1 y2 z0 z1 z2 HSTX hnil
        by_cases her : er = 0
        · subst her
          have hIN := HIN2.out (by first | trivial | rfl)
          have hle := HL.out.2.2.2.2
          have hoo := HOKJ.out
          have HSTO := Lib.hid (HST5.out.pick (ρ := aOwn 76 2 (.slice a n c) (out.map pairV) :: aOwn 76 2 ve (out2.map pairV) :: X2 :: aCel gb 172 #[.int .i64 (r : Int), .int .i64 f, .int .i64 to3] :: aCel go 69 #[.slice a n c, .int .i64 0, .int .i64 0] :: aOwn 172 3 (.slice (some ⟨gt, 0, none⟩) L.length ct2) (L.map tokV) :: aCel (w.heap.size + 1) 69 #[.slice none 0 0, .int .i64 0, .int .i64 0] :: aCel w.heap.size 66 A :: []) [4, 1, 0, 2, 3, 5, 6, 7] 8 rfl rfl)
          obtain ⟨x0, x1, x2⟩ := HSTO.out.at3 4 rfl
          have hl2 : out2.length ≤ 2001 := hoo.2.1
          have HLEN := Lib.hid (And.intro hl2 hle)
          have HEN := Lib.hid (Ws.evtsR HSTO.out 1 rfl (by omega))
          clear HST5 hoo hle hl2
          go_wp2_with (at_builtin; refine St.appSl evtE3 rfl (.tmp 74) (.tmp 75) rfl rfl HSTO.out (En := Enc.evt) (b2 := 16) rfl HEN.out rfl pairV (fun _ _ _ h => h) (fun a q hq => pair_one3 a q hq) (by have := HLEN.out; have := HLL.out; rw [List.length_map]; omega) (by have := HLEN.out; have := HLL.out; rw [List.length_map]; omega) ?_; intro v6 w6 hst6; obtain ⟨a6, n6, c6, rfl⟩ := Ws.shows (hst6.ownAt 0 rfl); have HST6 := Lib.hid hst6; obtain ⟨c0, c1, c2', f0, f1, f2⟩ := (hst6.nth 4 rfl).cel3; clear hst6)
          have HST7 := Lib.hid ((HST6.out.pick (ρ := aCel go 69 #[.slice a n c, .int .i64 0, .int .i64 0] :: aOwn 76 2 (.slice a6 n6 c6) (out.map pairV ++ out2.map pairV) :: aOwn 76 2 ve (out2.map pairV) :: X2 :: aCel gb 172 #[.int .i64 (r : Int), .int .i64 f, .int .i64 to3] :: aOwn 172 3 (.slice (some ⟨gt, 0, none⟩) L.length ct2) (L.map tokV) :: aCel (w.heap.size + 1) 69 #[.slice none 0 0, .int .i64 0, .int .i64 0] :: aCel w.heap.size 66 A :: []) [4, 0, 1, 2, 3, 5, 6, 7] 8 rfl rfl).setCel 0 (.slice a6 n6 c6))
          go_roundg (L.length - (i + 1))
          case measure => have := HGK.out; omega
          case rel =>
            refine ⟨i + 1, j + 1, st2, out ++ out2, X2, a6, n6, c6, by go_num, by omega, rfl, Lib.hid ⟨(HRUN.out.2.2 st out HNEG.out (by rw [hpr])).symm.trans HL.out.1 |> fun h => by rw [hpr] at h; exact h, ?_, by have := HL.out.2.2.1; omega, hIN, by rw [List.length_append]; have := HLEN.out; omega⟩, ?_⟩
            · exact HOKJ.out.1 (by first | trivial | rfl)
            · rw [List.map_append]
              exact HST7.out.pick [3, 0, 1, 5, 6, 7] 8 rfl rfl
        · have heb : (er != 0) = true := by rw [bne_iff_ne]; exact her
          have hw : Ws.whole P of (L, k) s.size ([(false, 0, 2, 0)], 0) = (out, er, f) := by
            have h1 := (HRUN.out.2.1 st out HNEG.out (by rw [hpr]; exact her)).symm.trans HL.out.1
            rw [hpr] at h1
            unfold Ws.whole
            simp only
            rw [← h1]
          have HW := Lib.hid hw
          clear hw her HRUN HOKJ HIN2
          have HSTO := Lib.hid (HST5.out.pick (ρ := aCel go 69 #[.slice a n c, .int .i64 0, .int .i64 0] :: aCel gb 172 #[.int .i64 (r : Int), .int .i64 f, .int .i64 to3] :: aOwn 76 2 (.slice a n c) (out.map pairV) :: aCel (w.heap.size + 1) 69 #[.slice none 0 0, .int .i64 0, .int .i64 0] :: []) [3, 2, 4, 6] 8 rfl rfl)
          clear HST5
          have y1 := (HSTO.out.at3 1 rfl).2.1
          obtain ⟨x0, x1, x2, f0, f1, f2⟩ := HSTO.out.cel3
          have HSTP := Lib.hid (HSTO.out.setCel 1 (.int .i64 er))
          have HSTQ := Lib.hid (HSTP.out.setCel 2 (.int .i64 f))
          have y1b := (HSTP.out.at3 1 rfl).2.1
          have y1c := (HSTQ.out.at3 1 rfl).2.1
          go_wp2_with (fail)
          refine wp_region_held_drew (S := (fun w' => w'.cell? ⟨gb, 1, none⟩ = some (.int .i64 f))) (by kernel_rfl) ?_ (fun hHeld => ?_)
          · (try dsimp only); (first | exact y1 | exact y1b | exact y1c)

          refine wpAnyH_take (i := 0) (v := ?_) rfl (by kernel_rfl) (by kernel_rfl) (by kernel_rfl) (fun _ _ _ h => h) (Or.inl ⟨by rfl, ?_⟩) (by assumption) ?_
          rotate_left; focus (intro w hSw; (try dsimp only at hSw); go_simp; try (with_reducible rfl); done)
          try simp only [List.getElem_toArray, List.getElem_cons_zero, List.getElem_cons_succ, Act.put, List.setIfInBounds_toArray, List.set_cons_zero, List.set_cons_succ]
          refine wpAnyH_take (i := 1) (v := ?_) rfl (by kernel_rfl) (by kernel_rfl) (by kernel_rfl) (fun _ _ _ h => h) (Or.inl ⟨by rfl, ?_⟩) (by assumption) ?_
          rotate_left; focus (intro w hSw; (try dsimp only at hSw); go_simp; try (with_reducible rfl); done)
          try simp only [List.getElem_toArray, List.getElem_cons_zero, List.getElem_cons_succ, Act.put, List.setIfInBounds_toArray, List.set_cons_zero, List.set_cons_succ]
          refine wpAnyH_take (i := 2) (v := ?_) rfl (by kernel_rfl) (by kernel_rfl) (by kernel_rfl) (fun _ _ _ h => h) (Or.inl ⟨by rfl, ?_⟩) (by assumption) ?_
          rotate_left; focus (intro w hSw; (try dsimp only at hSw); go_simp; try (with_reducible rfl); done)
          try simp only [List.getElem_toArray, List.getElem_cons_zero, List.getElem_cons_succ, Act.put, List.setIfInBounds_toArray, List.set_cons_zero, List.set_cons_succ]
          refine wpAnyH_take (i := 3) (v := ?_) rfl (by kernel_rfl) (by kernel_rfl) (by kernel_rfl) (fun _ _ _ h => h) (Or.inl ⟨by rfl, ?_⟩) (by assumption) ?_
          rotate_left; focus (intro w hSw; (try dsimp only at hSw); go_simp; try (with_reducible rfl); done)
          try simp only [List.getElem_toArray, List.getElem_cons_zero, List.getElem_cons_succ, Act.put, List.setIfInBounds_toArray, List.set_cons_zero, List.set_cons_succ]
          refine wpAnyH_ready (rs := [4]) (by kernel_rfl) (by simp) ?_
          refine AllReadyH.cons rfl (fun K hK => ?_) AllReadyH.nil
          go_simp
          refine hK.out _ _ ?_ (fun hHeld => ?_)
          · (try dsimp only); (first | exact y1 | exact y1b | exact y1c)
          clear hK K
          try simp only [List.getElem_toArray, List.getElem_cons_zero, List.getElem_cons_succ, Act.put, List.setIfInBounds_toArray, List.set_cons_zero, List.set_cons_succ]
          refine wpAnyH_take (i := 5) (v := ?_) rfl (by kernel_rfl) (by kernel_rfl) (by kernel_rfl) (fun _ _ _ h => h) (Or.inl ⟨by rfl, ?_⟩) (by assumption) ?_
          rotate_left; focus (intro w hSw; (try dsimp only at hSw); go_simp; try (with_reducible rfl); done)
          try simp only [List.getElem_toArray, List.getElem_cons_zero, List.getElem_cons_succ, Act.put, List.setIfInBounds_toArray, List.set_cons_zero, List.set_cons_succ]
          refine wpAnyH_ready (rs := [6]) (by kernel_rfl) (by simp) ?_
          refine AllReadyH.cons rfl (fun K hK => ?_) AllReadyH.nil
          go_simp
          refine hK.out _ _ ?_ (fun hHeld => ?_)
          · (try dsimp only); (first | exact y1 | exact y1b | exact y1c)
          clear hK K
          try simp only [List.getElem_toArray, List.getElem_cons_zero, List.getElem_cons_succ, Act.put, List.setIfInBounds_toArray, List.set_cons_zero, List.set_cons_succ]
          refine wpAnyH_done (by kernel_rfl) ?_ _
          clear y1 y1b y1c x0 x1 x2 f0 f1 f2
          have HST8 := Lib.hid HSTQ.out.drew
          generalize World.drew _ = w8 at HST8 ⊢
          obtain ⟨x0, x1, x2, f0, f1, f2⟩ := HST8.out.cel3
          obtain ⟨r0, r1, r2, h0, h1, h2⟩ := (HST8.out.nth 3 rfl).cel3
          have HSTW := Lib.hid ((((HST8.out.pick (ρ := aCel (w.heap.size + 1) 69 #[.slice none 0 0, .int .i64 0, .int .i64 0] :: aOwn 76 2 (.slice a n c) (out.map pairV) :: []) [3, 2] 4 rfl rfl).setCel 0 (.slice a n c)).setCel 1 (.int .i64 er)).setCel 2 (.int .i64 f))
          go_wp2_with (fail)
          obtain ⟨d0, d1, d2, -, -, -⟩ := HSTW.out.cel3
          refine bodyPost_ret (Ws.resT rfl _ _ (w.heap.size + 1) rfl d0 d1 d2) rfl ?_
          rw [HW.out]
          exact ⟨_, rfl, HSTW.out.drop⟩
    · have hil : i = L.length := by omega
      have hltI : decide ((i : Int) < (L.length : Int)) = false := decide_eq_false (by omega)
      have hltf : ¬ ((i : Int) < (L.length : Int)) := by omega
      have hrun := HL.out.1
      rw [Ws.run_nil (by omega)] at hrun
      have HRUN := Lib.hid hrun
      clear hlt hrun
      by_cases hk : 0 ≤ k
      · obtain ⟨hl1, hl2⟩ := HLX.out
        rw [if_pos hk] at hl1 hl2
        subst hl1 hl2
        have hw : Ws.whole P of (L, k) s.size ([(false, 0, 2, 0)], 0) = (out, 9, k) := by
          unfold Ws.whole
          simp only
          rw [← HRUN.out]
          simp only
          rw [if_pos hk]
        have HW := Lib.hid hw
        clear hw hk hil
        have HSTO := Lib.hid (HSL.out.pick (ρ := aCel go 69 #[.slice a n c, .int .i64 0, .int .i64 0] :: aOwn 76 2 (.slice a n c) (out.map pairV) :: aCel (w.heap.size + 1) 69 #[.slice none 0 0, .int .i64 0, .int .i64 0] :: []) [1, 2, 4] 6 rfl rfl)
        obtain ⟨x0, x1, x2, f0, f1, f2⟩ := HSTO.out.cel3
        obtain ⟨r0, r1, r2, h0, h1, h2⟩ := (HSTO.out.nth 2 rfl).cel3
        have hne : ¬ w.heap.size + 1 = go ∧ ¬ go = w.heap.size + 1 := by have := HSTO.out.sep; simp [aCel] at this; omega
        obtain ⟨hne1, hne2⟩ := hne
        have HSTW := Lib.hid (((((((HSTO.out.setCel 1 (.int .i64 9)).setCel 2 (.int .i64 k))).pick (ρ := aCel (w.heap.size + 1) 69 #[.slice none 0 0, .int .i64 0, .int .i64 0] :: aOwn 76 2 (.slice a n c) (out.map pairV) :: []) [2, 1] 3 rfl rfl).setCel 0 (.slice a n c)).setCel 1 (.int .i64 9)).setCel 2 (.int .i64 k))
        go_wp2_with (fail)
        obtain ⟨d0, d1, d2, -, -, -⟩ := HSTW.out.cel3
        refine bodyPost_ret (Ws.resT rfl _ _ (w.heap.size + 1) rfl d0 d1 d2) rfl ?_
        rw [HW.out]
        exact ⟨_, rfl, HSTW.out.drop⟩
      · obtain ⟨hl1, hl2⟩ := HLX.out
        rw [if_neg hk] at hl1 hl2
        subst hl1 hl2
        have hw : Ws.whole P of (L, k) s.size ([(false, 0, 2, 0)], 0) = (out ++ (P.fin st).2, (P.fin st).1, (s.size : Int)) := by
          unfold Ws.whole
          simp only
          rw [← HRUN.out]
          simp only
          rw [if_neg hk]
        have HW := Lib.hid hw
        have hj5 : j ≤ 5000 := by have := HL.out.2.2.1; have := HLL.out; omega
        have hok2 := (HOK.out j st 0 HL.out.2.1 hj5 (by omega)).2.2
        clear hw hk hil
        have HSTX := Lib.hid (HSL.out.pick (ρ := X :: aCel go 69 #[.slice a n c, .int .i64 0, .int .i64 0] :: aOwn 76 2 (.slice a n c) (out.map pairV) :: aCel (w.heap.size + 1) 69 #[.slice none 0 0, .int .i64 0, .int .i64 0] :: []) [0, 1, 2, 4] 6 rfl rfl)
        have HC := HEND.out g w wr _ j st X HSTX.out.bel (Nat.le_refl _) HL.out.2.2.2.1 HL.out.2.1 hj5 HSTX.out
        replace HC := Lib.hid HC
        generalize P.fin st = pr at HC hok2 HW
        obtain ⟨er, out2⟩ := pr
        simp only at HC hok2 HW
        have hle := HL.out.2.2.2.2
        have HLEN := Lib.hid (And.intro hok2 hle)
        clear hok2 hle
        go_wp2_with (fail)
        go_at_call 204
        refine HC.out.mono ?_
        rintro e5 w5 ⟨ve, X2, rfl, hst5⟩
        have HST5 := Lib.hid hst5
        clear hst5
        have HSTO := Lib.hid (HST5.out.pick (ρ := aOwn 76 2 (.slice a n c) (out.map pairV) :: aOwn 76 2 ve (out2.map pairV) :: aCel go 69 #[.slice a n c, .int .i64 0, .int .i64 0] :: aCel (w.heap.size + 1) 69 #[.slice none 0 0, .int .i64 0, .int .i64 0] :: []) [3, 1, 2, 4] 5 rfl rfl)
        obtain ⟨x0, x1, x2⟩ := HSTO.out.at3 2 rfl
        have HEN := Lib.hid (Ws.evtsR HSTO.out 1 rfl (by have := HLEN.out.1; omega))
        clear HST5 HSTX
        go_wp2_with (at_builtin; refine St.appSl evtE3 rfl (.tmp 92) (.tmp 93) rfl rfl HSTO.out (En := Enc.evt) (b2 := 16) rfl HEN.out rfl pairV (fun _ _ _ h => h) (fun a q hq => pair_one3 a q hq) (by have := HLEN.out; have := HLL.out; rw [List.length_map]; omega) (by have := HLEN.out; have := HLL.out; rw [List.length_map]; omega) ?_; intro v6 w6 hst6; obtain ⟨a6, n6, c6, rfl⟩ := Ws.shows (hst6.ownAt 0 rfl); have HST6 := Lib.hid hst6; obtain ⟨c0, c1, c2', f0, f1, f2⟩ := (hst6.nth 2 rfl).cel3; obtain ⟨r0, r1, r2, h0, h1, h2⟩ := (hst6.nth 3 rfl).cel3; obtain ⟨hne1, hne2⟩ : ¬ w.heap.size + 1 = go ∧ ¬ go = w.heap.size + 1 := (by have := (hst6.pick (ρ := aCel go 69 #[.slice a n c, .int .i64 0, .int .i64 0] :: aCel (w.heap.size + 1) 69 #[.slice none 0 0, .int .i64 0, .int .i64 0] :: []) [2, 3] 4 rfl rfl).sep; simp [aCel] at this; omega); clear hst6)
        have HSTW := Lib.hid ((((((((HST6.out.pick (ρ := aCel go 69 #[.slice a n c, .int .i64 0, .int .i64 0] :: aOwn 76 2 (.slice a6 n6 c6) (out.map pairV ++ out2.map pairV) :: aCel (w.heap.size + 1) 69 #[.slice none 0 0, .int .i64 0, .int .i64 0] :: []) [2, 0, 3] 4 rfl rfl).setCel 0 (.slice a6 n6 c6)).setCel 1 (.int .i64 er)).setCel 2 (.int .i64 (s.size : Int))).pick (ρ := aCel (w.heap.size + 1) 69 #[.slice none 0 0, .int .i64 0, .int .i64 0] :: aOwn 76 2 (.slice a6 n6 c6) (out.map pairV ++ out2.map pairV) :: []) [2, 1] 3 rfl rfl).setCel 0 (.slice a6 n6 c6)).setCel 1 (.int .i64 er)).setCel 2 (.int .i64 (s.size : Int)))
        obtain ⟨d0, d1, d2, -, -, -⟩ := HSTW.out.cel3
        refine bodyPost_ret (Ws.resT rfl _ _ (w.heap.size + 1) rfl d0 d1 d2) rfl ?_
        rw [HW.out]
        refine ⟨_, rfl, ?_⟩
        rw [List.map_append]
        exact HSTW.out.drop

set_option maxRecDepth 100000 in
set_option maxHeartbeats 4000000 in
theorem wsRunS (A : Array Value) (m : Mk.Md) (v0 : Value) (Pc : Array Value) (vn vt vp vr va vg : Value) (s : ByteArray) (w : World) (hm : MadeAt (fun b => b < w.heap.size) w A m v0 Pc vn vt vp vr va vg) (he0 : Mk.err m = 0) (hmode : m.2.2.2.1 = 2) (he : Tb.all m.2.2.1.1 m.2.2.1.2.1 m.2.2.1.2.2 m.2.2.2.2.2.1 m.2.2.2.2.2.2 = 0) (hs : s.size ≤ 2000) :
    Calls Try.prog 25 #[.agg A, .string s] w (Ws.RetRun 0 (Ws.whole (Ws.stacker m.2.2.1.2.2 m.2.2.2.2.2.1 m.2.2.2.2.2.2 m.2.2.1.1.toNat) m.1 (Lx.toks m.2.1.1 m.2.1.2.1 m.2.1.2.2 s.size s.data.toList 0 []) s.size ([0], 0)) w) := by
  obtain ⟨z1, z2, z3, z4, z5, z6, -⟩ := Ws.mk_zero he0
  have hgr := Gr.err_zero z2
  have htt : ((m.2.2.1.1.toNat : Nat) : Int) = m.2.2.1.1 := by omega
  have ht0 : 0 ≤ m.2.2.1.1 := hgr.1
  have hst := ((St.init w).alloc A 66).alloc #[.slice none 0 0, .int .i64 0, .int .i64 0] 69
  simp only [World.size_alloc] at hst
  have hsz : (Try.prog.info? 66).map (fun x => x.size) = some A.size := by rw [hm.size]; kernel_rfl
  have hpz : (Try.prog.info? 61).map (fun x => x.size) = some Pc.toList.length := by rw [Array.length_toList, hm.psize]; kernel_rfl
  have HS := Lib.hid hsz; have HPZ := Lib.hid hpz
  have HA := Lib.hid (hst.heapAt 1 rfl)
  have HPK : Hid (∀ (W : World) (g : Nat), W.heap[g]? = some (.cells A 66 (0, 0)) → W.rangeAt g 1 Pc.toList) := Lib.hid (fun W g h => (hm.box h).pk)
  have HR := fun W (hW : Below w.heap.size w W) => specRight_any A m v0 Pc vn vt vp vr va vg W (fun b => b < W.heap.size) (fun b h => h) (Ws.made_below hm hW)
  rw [he0] at HR
  replace HR := Lib.hid HR
  have HLEX := fun W (hW : Below w.heap.size w W) => lex_any Pc m.2.1.1 m.2.1.2.1 m.2.1.2.2 vn vt s (by omega) W (hm.packed.below hW)
  rw [Lx.err_ok z1 (by omega)] at HLEX
  replace HLEX := Lib.hid HLEX
  have HBEG := Lib.hid (fun W => wsBegunS A m v0 Pc vn vt vp vr va vg (fun b => b < w.heap.size) w W hm hmode)
  have HPUSH := Lib.hid (fun g => wsSPush w A m v0 Pc vn vt vp vr va vg hm he m.2.2.1.1.toNat htt g)
  have HEND := Lib.hid (fun g => wsSEnd w A m v0 Pc vn vt vp vr va vg hm he m.2.2.1.1.toNat htt g)
  have htk := Ws.toks_ok (of := m.2.1.1) (next := m.2.1.2.1) (tags := m.2.1.2.2) z3 z6 s.size s.size s.data.toList 0 [] (by omega) (by simp) (by simp) (fun x hx => by cases hx)
  have hin := Lx.toks_in (of := m.2.1.1) (next := m.2.1.2.1) (tags := m.2.1.2.2) s.size s.data.toList 0 (by omega) []
  have HOK : Hid (∀ (j : Nat) (st : (List Int × Int)) (c : Nat), (Ws.okS m.2.2.2.2.2.1.length) j st → j ≤ 5000 → (c : Int) ≤ m.2.2.1.1 → (((Ws.stacker m.2.2.1.2.2 m.2.2.2.2.2.1 m.2.2.2.2.2.2 m.2.2.1.1.toNat).push st c).1 = 0 → (Ws.okS m.2.2.2.2.2.1.length) (j + 1) ((Ws.stacker m.2.2.1.2.2 m.2.2.2.2.2.1 m.2.2.2.2.2.2 m.2.2.1.1.toNat).push st c).2.1) ∧ ((Ws.stacker m.2.2.1.2.2 m.2.2.2.2.2.1 m.2.2.2.2.2.2 m.2.2.1.1.toNat).push st c).2.2.length ≤ 2001 ∧ ((Ws.stacker m.2.2.1.2.2 m.2.2.2.2.2.1 m.2.2.2.2.2.2 m.2.2.1.1.toNat).fin st).2.length ≤ 2001) :=
    Lib.hid (fun j st c hk hj hc => ⟨fun h0 => Ws.okS_push hk hj he hc h0, Ws.okS_len hk hj he (c := c) hc (by omega)⟩)
  have HBG : Hid ((Ws.okS m.2.2.2.2.2.1.length) 0 ([0], 0)) := Lib.hid (Ws.okS_begin he)
  obtain ⟨ao, bo, oo, co, hv0, -, o3, o4⟩ := Enc.sl1 (En := Enc.int .i64) (Value.int .i64) (fun _ _ _ h => h.1) rfl 0 hm.ofs
  subst hv0
  have O3 : Hid (∀ (q : Int), 0 ≤ q → q < m.1.length → ao = some ⟨bo, oo, none⟩ ∧ (∀ W, Below w.heap.size w W → W.cell? ⟨bo, oo + q.toNat, none⟩ = some (.int .i64 (m.1.getD q.toNat 0))) ∧ m.1.getD q.toNat 0 < m.2.2.1.1 ∧ -1 ≤ m.1.getD q.toNat 0) :=
    Lib.hid (fun q h0 h1 => ⟨(o3 (by omega)).1, fun W hW => bkeep hW (o4 q.toNat (by omega)).1, (z5 q.toNat (by omega)).2, (z5 q.toNat (by omega)).1⟩)
  have a0 := hm.arr.1
  have HA0 : Hid (∀ (W : World) (g : Nat), W.heap[g]? = some (.cells A 66 (0, 0)) → W.cell? ⟨g, 0, none⟩ = some (.slice ao m.1.length co)) := Lib.hid (fun W g h => (hm.box h).c0)
  generalize hP : (Ws.stacker m.2.2.1.2.2 m.2.2.2.2.2.1 m.2.2.2.2.2.2 m.2.2.1.1.toNat) = P at *
  generalize hok : (Ws.okS m.2.2.2.2.2.1.length) = ok at *
  generalize hX : (Lx.toks m.2.1.1 m.2.1.2.1 m.2.1.2.2 s.size s.data.toList 0 []) = X at *
  generalize m.1 = of at *
  generalize m.2.2.1.1 = t at *
  have HTK := Lib.hid htk
  obtain ⟨L, k⟩ := X
  simp only at HTK hin
  have hsI : (s.size : Int) ≤ 2000 := by omega
  have HLL := Lib.hid (show L.length ≤ 2000 by have := HTK.out.2; omega)
  have HKK := Lib.hid hin
  have HST := Lib.hid hst
  clear hst hm he he0 hmode hsz hpz z1 z2 z3 z4 z5 z6 hgr htt htk hin o3 o4 a0 hP hok hX hs
  go_enter Try.func25, Try.ntmps25
  go_wp2_with (refine wpList_load_row rfl 66 (.tmp 2) rfl w.heap.size rfl 66 A (0, 0) _ HA.out Try.underlying66 rfl HS.out ?_)
  go_at_call 75
  refine (HR.out _ HST.out.bel).mono ?_
  rintro e1 w1 ⟨rfl, hb1⟩
  have HST1 := Lib.hid (HST.out.call hb1)
  have HA1 := Lib.hid (HST1.out.heapAt 1 rfl)
  clear hb1
  go_wp2_with (refine wpList_load_mid rfl 61 (.tmp 29) rfl w.heap.size 1 rfl Pc.toList _ (HPK.out _ _ HA1.out) Try.underlying61 rfl HPZ.out ?_)
  go_at_call 76
  refine (HLEX.out _ HST1.out.bel).mono ?_
  rintro e2 w2 ⟨vt2, rfl, ho2, hb2⟩
  rw [if_pos rfl] at ho2
  simp only [true_and]
  generalize hlx : (if 0 ≤ k then (9 : Int) else 0) = lx
  generalize hat : (if 0 ≤ k then k else (0 : Int)) = at0
  have HLX := Lib.hid (And.intro hlx hat)
  clear hlx hat
  have HST2 := Lib.hid (HST1.out.pushOwn hb2 ho2)
  have HA2 := Lib.hid (HST2.out.heapAt 2 rfl)
  clear ho2 hb2
  go_wp2_with (refine wpList_load_row rfl 66 (.tmp 2) rfl w.heap.size rfl 66 A (0, 0) _ HA2.out Try.underlying66 rfl HS.out ?_)
  go_at_call 77
  refine (HBEG.out _).mono ?_
  rintro e3 w3 ⟨g, X0, rfl, hin0, hr3⟩
  obtain ⟨at2, ct2, hvt⟩ := Ws.showsLen (HST2.out.ownAt 0 rfl)
  rw [List.length_map] at hvt
  subst hvt
  have HST3 := Lib.hid ((HST2.out.joined hr3).alloc #[.slice none 0 0, .int .i64 0, .int .i64 0] 69)
  generalize hgo : w3.heap.size = go at HST3
  have HIN0 := Lib.hid hin0
  clear hr3 hin0
  go_wp2_with (fail)

  go_loopg [40] L.length (fun gk v40 wr => ∃ (i j : Nat) (st : (List Int × Int)) (out : List Ws.Ev) (X : Asrt) (a : Option Addr) (n c : Nat), v40 = .int .i64 (i : Int) ∧ i ≤ L.length ∧ gk = L.length - i ∧ Hid (Ws.run P of (L.drop i) st out = Ws.run P of L ([0], 0) [] ∧ ok j st ∧ j ≤ i ∧ Ws.InS g 234 A #[] st X ∧ out.length ≤ 2001 * i) ∧ St w wr (X :: aCel go 69 #[.slice a n c, .int .i64 0, .int .i64 0] :: aOwn 76 2 (.slice a n c) (out.map pairV) :: aOwn 172 3 (.slice at2 L.length ct2) (L.map tokV) :: aCel (w.heap.size + 1) 69 #[.slice none 0 0, .int .i64 0, .int .i64 0] :: aCel w.heap.size 66 A :: []))
  case atStart =>
    refine ⟨0, 0, ([0], 0), [], X0, none, 0, 0, rfl, Nat.zero_le _, rfl, Lib.hid ⟨by rw [List.drop_zero], HBG.out, Nat.le_refl _, HIN0.out, by simp⟩, ?_⟩
    exact (HST3.out.nilOwn 76 2).pick [2, 1, 0, 3, 4, 5] 6 rfl rfl
  case round =>
    clear HST HST1 HST2 HST3 HA HA1 HA2 HIN0 HR HLEX HBEG HPK HBG
    obtain ⟨i, j, st, out, X, a, n, c, rfl, hi, hgk, HL, hst⟩ := hrel
    have HGK := Lib.hid hgk
    have HSL := Lib.hid hst
    clear hst hgk
    have hLL := HLL.out
    have x0lt : w.heap.size < wr.heap.size := ((HSL.out.nth 5 rfl).lo _ (.head _) _ (.head _)).2
    by_cases hlt : i < L.length
    · have hltI : (i : Int) < (L.length : Int) := by omega
      obtain ⟨gt, rfl⟩ := (HSL.out.ownAt 3 rfl).addr (by rw [List.length_map]; omega)
      have tk : ∀ (q : Nat) (hq : q < 3) (v : Value), (tokV (L.getD i (0, 0, 0))).cells.toList[q]? = some v → wr.cell? ⟨gt, i * 3 + q, none⟩ = some v := fun q hq v hv => (HSL.out.nth 3 rfl).cellsN (f := tokV) (fun _ => rfl) i hlt (0, 0, 0) q hq v hv
      have t0 : wr.cell? ⟨gt, i * 3, none⟩ = _ := tk 0 (by decide) _ rfl
      have t1 := tk 1 (by decide) _ rfl
      have t2 := tk 2 (by decide) _ rfl
      have hmem := HTK.out.1 (L.getD i (0, 0, 0)) (by rw [List.getD_eq_getElem?_getD, List.getElem?_eq_getElem hlt]; exact List.getElem_mem _)
      obtain ⟨q0, q1, q2, q3⟩ := hmem
      obtain ⟨rfl, hcell, hc1, hc2⟩ := O3.out _ q0 q1
      have HRUN := Lib.hid (And.intro (fun st out => Ws.run_skip (P := P) (of := of) (st := st) (out := out) hlt) (And.intro (fun st out => Ws.run_bad (P := P) (of := of) (st := st) (out := out) hlt) (fun st out => Ws.run_go (P := P) (of := of) (st := st) (out := out) hlt)))
      have ofc := hcell wr HSL.out.bel
      have a0 := HA0.out wr w.heap.size (HSL.out.heapAt 5 rfl)
      have HCELL := Lib.hid hcell
      generalize L.getD i (0, 0, 0) = kk at *
      obtain ⟨r, f, to3⟩ := kk
      simp only at t0 t1 t2 q0 q1 q2 q3 hc1 hc2 ofc HRUN HCELL
      obtain ⟨r, rfl⟩ := Int.eq_ofNat_of_zero_le q0
      rw [Int.toNat_natCast] at ofc hc1 hc2 HRUN HCELL
      generalize hcc : of.getD r 0 = cc at *
      have blt := World.block_lt_of_cell? _ _ ofc
      have glt := World.block_lt_of_cell? _ _ t0
      have hrlt : r < of.length := by omega
      simp only at blt glt
      have HST4 := Lib.hid (HSL.out.alloc #[.int .i64 (r : Int), .int .i64 f, .int .i64 to3] 172)
      clear tk hcell hcc
      by_cases hneg : cc < 0
      · have hd : decide (cc < 0) = true := decide_eq_true hneg
        go_wp2_with (fail)
        go_roundg (L.length - (i + 1))
        case measure => have := HGK.out; omega
        case rel => exact ⟨i + 1, j, st, out, X, a, n, c, by go_num, by omega, rfl, Lib.hid ⟨(HRUN.out.1 st out hneg).symm.trans HL.out.1, HL.out.2.1, Nat.le_succ_of_le HL.out.2.2.1, HL.out.2.2.2.1, by have := HL.out.2.2.2.2; omega⟩, HST4.out.pick [1, 2, 3, 4, 5, 6] 7 rfl rfl⟩
      · have hd : decide (cc < 0) = false := decide_eq_false hneg
        obtain ⟨c2, rfl⟩ := Int.eq_ofNat_of_zero_le (show 0 ≤ cc by omega)
        go_wp2_with (fail)
        clear ofc a0 t0 t1 t2 hd
        have HNEG := Lib.hid hneg
        rw [Int.toNat_natCast] at HRUN
        have hj5 : j ≤ 5000 := by have := HL.out.2.2.1; have := HLL.out; omega
        have HOKJ := Lib.hid (HOK.out j st c2 HL.out.2.1 hj5 (by omega))
        have HSTX := Lib.hid (HST4.out.pick (ρ := X :: aCel wr.heap.size 172 #[.int .i64 (r : Int), .int .i64 f, .int .i64 to3] :: aCel go 69 #[.slice a n c, .int .i64 0, .int .i64 0] :: aOwn 76 2 (.slice a n c) (out.map pairV) :: aOwn 172 3 (.slice (some ⟨gt, 0, none⟩) L.length ct2) (L.map tokV) :: aCel (w.heap.size + 1) 69 #[.slice none 0 0, .int .i64 0, .int .i64 0] :: aCel w.heap.size 66 A :: []) [1, 0, 2, 3, 4, 5, 6] 7 rfl rfl)
        generalize hgb : wr.heap.size = gb at HSTX ⊢
        generalize wr.alloc _ = w4 at HSTX ⊢
        have y0 := HA0.out w4 w.heap.size (HSTX.out.heapAt 6 rfl)
        have y1 := (HSTX.out.at3 1 rfl).1
        have y2 := HCELL.out w4 HSTX.out.bel
        have HC := HPUSH.out g w w4.drew _ j st X c2 HSTX.out.bel.drew (Nat.le_refl _) HL.out.2.2.2.1 HL.out.2.1 hj5 (by omega) HSTX.out.drew
        replace HC := Lib.hid HC
        generalize hpr : P.push st c2 = pr at HC HRUN HOKJ
        obtain ⟨er, st2, out2⟩ := pr
        simp only at HC
        clear HST4 HSL x0lt glt blt hgb
        have hnil : ∀ (q : Nat) (W : World), (nilAhead (q + 1) 229 (.pointer (some ⟨g, 0, none⟩)) "pushmill/whole.push").run Try.prog W = .ok (some false) W := fun q W => by kernel_rfl
        refine wp_region_held_drew (S := (fun w' => w'.cell? ⟨w.heap.size, 0, none⟩ = some (.slice (some ⟨bo, oo, none⟩) of.length co) ∧ w'.cell? ⟨gb, 0, none⟩ = some (.int .i64 (r : Int)) ∧ w'.cell? ⟨bo, oo + r, none⟩ = some (.int .i64 (c2 : Int)))) (by kernel_rfl) ?_ (fun hHeld => ?_)
        · (try dsimp only); (first | exact ⟨y0, y1, y2⟩ | exact ⟨z0, z1, z2⟩)

        refine wpAnyH_take (i := 0) (v := ?_) rfl (by kernel_rfl) (by kernel_rfl) (by kernel_rfl) (fun _ _ _ h => h) (Or.inl ⟨by rfl, ?_⟩) (by assumption) ?_
        rotate_left; focus (intro w hSw; (try dsimp only at hSw); go_simp; try (with_reducible rfl); done)
        try simp only [List.getElem_toArray, List.getElem_cons_zero, List.getElem_cons_succ, Act.put, List.setIfInBounds_toArray, List.set_cons_zero, List.set_cons_succ]
        refine wpAnyH_take (i := 1) (v := ?_) rfl (by kernel_rfl) (by kernel_rfl) (by kernel_rfl) (fun _ _ _ h => h) (Or.inl ⟨by rfl, ?_⟩) (by assumption) ?_
        rotate_left; focus (intro w hSw; (try dsimp only at hSw); go_simp; try (with_reducible rfl); done)
        try simp only [List.getElem_toArray, List.getElem_cons_zero, List.getElem_cons_succ, Act.put, List.setIfInBounds_toArray, List.set_cons_zero, List.set_cons_succ]
        refine wpAnyH_take (i := 2) (v := ?_) rfl (by kernel_rfl) (by kernel_rfl) (by kernel_rfl) (fun _ _ _ h => h) (Or.inl ⟨by rfl, ?_⟩) (by assumption) ?_
        rotate_left; focus (intro w hSw; (try dsimp only at hSw); go_simp; try (with_reducible rfl); done)
        try simp only [List.getElem_toArray, List.getElem_cons_zero, List.getElem_cons_succ, Act.put, List.setIfInBounds_toArray, List.set_cons_zero, List.set_cons_succ]
        refine wpAnyH_take (i := 3) (v := ?_) rfl (by kernel_rfl) (by kernel_rfl) (by kernel_rfl) (fun _ _ _ h => h) (Or.inl ⟨by rfl, ?_⟩) (by assumption) ?_
        rotate_left; focus (intro w hSw; (try dsimp only at hSw); go_simp; try (with_reducible rfl); done)
        try simp only [List.getElem_toArray, List.getElem_cons_zero, List.getElem_cons_succ, Act.put, List.setIfInBounds_toArray, List.set_cons_zero, List.set_cons_succ]
        refine wpAnyH_take (i := 4) (v := ?_) rfl (by kernel_rfl) (by kernel_rfl) (by kernel_rfl) (fun _ _ _ h => h) (Or.inl ⟨by rfl, ?_⟩) (by assumption) ?_
        rotate_left; focus (intro w hSw; (try dsimp only at hSw); go_simp; try (with_reducible rfl); done)
        try simp only [List.getElem_toArray, List.getElem_cons_zero, List.getElem_cons_succ, Act.put, List.setIfInBounds_toArray, List.set_cons_zero, List.set_cons_succ]
        refine wpAnyH_take (i := 5) (v := ?_) rfl (by kernel_rfl) (by kernel_rfl) (by kernel_rfl) (fun _ _ _ h => h) (Or.inl ⟨by rfl, ?_⟩) (by assumption) ?_
        rotate_left; focus (intro w hSw; (try dsimp only at hSw); go_simp; try (with_reducible rfl); done)
        try simp only [List.getElem_toArray, List.getElem_cons_zero, List.getElem_cons_succ, Act.put, List.setIfInBounds_toArray, List.set_cons_zero, List.set_cons_succ]
        refine wpAnyH_take (i := 6) (v := ?_) rfl (by kernel_rfl) (by kernel_rfl) (by kernel_rfl) (fun _ _ _ h => h) (Or.inl ⟨by rfl, ?_⟩) (by assumption) ?_
        rotate_left; focus (intro w hSw; (try dsimp only at hSw); go_simp; try (with_reducible rfl); done)
        try simp only [List.getElem_toArray, List.getElem_cons_zero, List.getElem_cons_succ, Act.put, List.setIfInBounds_toArray, List.set_cons_zero, List.set_cons_succ]
        refine wpAnyH_take (i := 7) (v := ?_) rfl (by kernel_rfl) (by kernel_rfl) (by kernel_rfl) (fun _ _ _ h => h) (Or.inl ⟨by rfl, ?_⟩) (by assumption) ?_
        rotate_left; focus (intro w hSw; (try dsimp only at hSw); go_simp; try (with_reducible rfl); done)
        try simp only [List.getElem_toArray, List.getElem_cons_zero, List.getElem_cons_succ, Act.put, List.setIfInBounds_toArray, List.set_cons_zero, List.set_cons_succ]
        refine wpAnyH_take (i := 8) (v := ?_) rfl (by kernel_rfl) (by kernel_rfl) (by kernel_rfl) (fun _ _ _ h => h) (Or.inl ⟨by rfl, ?_⟩) (by assumption) ?_
        rotate_left; focus (intro w hSw; (try dsimp only at hSw); go_simp; try (with_reducible rfl); done)
        try simp only [List.getElem_toArray, List.getElem_cons_zero, List.getElem_cons_succ, Act.put, List.setIfInBounds_toArray, List.set_cons_zero, List.set_cons_succ]
        refine wpAnyH_take (i := 9) (v := ?_) rfl (by kernel_rfl) (by kernel_rfl) (by kernel_rfl) (fun _ _ _ h => h) (Or.inl ⟨by rfl, ?_⟩) (by assumption) ?_
        rotate_left; focus (intro w hSw; (try dsimp only at hSw); go_simp; try (with_reducible rfl); done)
        try simp only [List.getElem_toArray, List.getElem_cons_zero, List.getElem_cons_succ, Act.put, List.setIfInBounds_toArray, List.set_cons_zero, List.set_cons_succ]
        refine wpAnyH_ready (rs := [10]) (by kernel_rfl) (by simp) ?_
        refine AllReadyH.cons rfl (fun K hK => ?_) AllReadyH.nil
        go_simp
        (go_invoke; go_simp; go_at_call 222; refine HC.out.mono ?_; rintro e5 w5 ⟨ve, X2, rfl, hin2, hst5⟩; have z0 := HA0.out w5 w.heap.size (hst5.heapAt 7 rfl); have z1 := (hst5.at3 2 rfl).1; have z2 := HCELL.out w5 hst5.bel; have HIN2 := Lib.hid hin2; have HST5 := Lib.hid hst5; clear hin2 hst5)
        refine hK.out _ _ ?_ (fun hHeld => ?_)
        · (try dsimp only); (first | exact ⟨y0, y1, y2⟩ | exact ⟨z0, z1, z2⟩)
        clear hK K
        try simp only [List.getElem_toArray, List.getElem_cons_zero, List.getElem_cons_succ, Act.put, List.setIfInBounds_toArray, List.set_cons_zero, List.set_cons_succ]
        refine wpAnyH_take (i := 11) (v := ?_) rfl (by kernel_rfl) (by kernel_rfl) (by kernel_rfl) (fun _ _ _ h => h) (Or.inl ⟨by rfl, ?_⟩) (by assumption) ?_
        rotate_left; focus (intro w hSw; (try dsimp only at hSw); go_simp; try (with_reducible rfl); done)
        try simp only [List.getElem_toArray, List.getElem_cons_zero, List.getElem_cons_succ, Act.put, List.setIfInBounds_toArray, List.set_cons_zero, List.set_cons_succ]
        refine wpAnyH_take (i := 12) (v := ?_) rfl (by kernel_rfl) (by kernel_rfl) (by kernel_rfl) (fun _ _ _ h => h) (Or.inl ⟨by rfl, ?_⟩) (by assumption) ?_
        rotate_left; focus (intro w hSw; (try dsimp only at hSw); go_simp; try (with_reducible rfl); done)
        try simp only [List.getElem_toArray, List.getElem_cons_zero, List.getElem_cons_succ, Act.put, List.setIfInBounds_toArray, List.set_cons_zero, List.set_cons_succ]
        refine wpAnyH_take (i := 13) (v := ?_) rfl (by kernel_rfl) (by kernel_rfl) (by kernel_rfl) (fun _ _ _ h => h) (Or.inl ⟨by rfl, ?_⟩) (by assumption) ?_
        rotate_left; focus (intro w hSw; (try dsimp only at hSw); go_simp; try (with_reducible rfl); done)
        try simp only [List.getElem_toArray, List.getElem_cons_zero, List.getElem_cons_succ, Act.put, List.setIfInBounds_toArray, List.set_cons_zero, List.set_cons_succ]
        refine wpAnyH_take (i := 14) (v := ?_) rfl (by kernel_rfl) (by kernel_rfl) (by kernel_rfl) (fun _ _ _ h => h) (Or.inl ⟨by rfl, ?_⟩) (by assumption) ?_
        rotate_left; focus (intro w hSw; (try dsimp only at hSw); go_simp; try (with_reducible rfl); done)
        try simp only [List.getElem_toArray, List.getElem_cons_zero, List.getElem_cons_succ, Act.put, List.setIfInBounds_toArray, List.set_cons_zero, List.set_cons_succ]
        refine wpAnyH_take (i := 15) (v := ?_) rfl (by kernel_rfl) (by kernel_rfl) (by kernel_rfl) (fun _ _ _ h => h) (Or.inl ⟨by rfl, ?_⟩) (by assumption) ?_
        rotate_left; focus (intro w hSw; (try dsimp only at hSw); go_simp; try (with_reducible rfl); done)
        try simp only [List.getElem_toArray, List.getElem_cons_zero, List.getElem_cons_succ, Act.put, List.setIfInBounds_toArray, List.set_cons_zero, List.set_cons_succ]
        refine wpAnyH_done (by kernel_rfl) ?_ _
        clear y0 y1 y2 z0 z1 z2 HSTX hnil
        by_cases her : er = 0
        · subst her
          have hIN := HIN2.out (by first | trivial | rfl)
          have hle := HL.out.2.2.2.2
          have hoo := HOKJ.out
          have HSTO := Lib.hid (HST5.out.pick (ρ := aOwn 76 2 (.slice a n c) (out.map pairV) :: aOwn 76 2 ve (out2.map pairV) :: X2 :: aCel gb 172 #[.int .i64 (r : Int), .int .i64 f, .int .i64 to3] :: aCel go 69 #[.slice a n c, .int .i64 0, .int .i64 0] :: aOwn 172 3 (.slice (some ⟨gt, 0, none⟩) L.length ct2) (L.map tokV) :: aCel (w.heap.size + 1) 69 #[.slice none 0 0, .int .i64 0, .int .i64 0] :: aCel w.heap.size 66 A :: []) [4, 1, 0, 2, 3, 5, 6, 7] 8 rfl rfl)
          obtain ⟨x0, x1, x2⟩ := HSTO.out.at3 4 rfl
          have hl2 : out2.length ≤ 2001 := hoo.2.1
          have HLEN := Lib.hid (And.intro hl2 hle)
          have HEN := Lib.hid (Ws.evtsR HSTO.out 1 rfl (by omega))
          clear HST5 hoo hle hl2
          go_wp2_with (at_builtin; refine St.appSl evtE3 rfl (.tmp 74) (.tmp 75) rfl rfl HSTO.out (En := Enc.evt) (b2 := 16) rfl HEN.out rfl pairV (fun _ _ _ h => h) (fun a q hq => pair_one3 a q hq) (by have := HLEN.out; have := HLL.out; rw [List.length_map]; omega) (by have := HLEN.out; have := HLL.out; rw [List.length_map]; omega) ?_; intro v6 w6 hst6; obtain ⟨a6, n6, c6, rfl⟩ := Ws.shows (hst6.ownAt 0 rfl); have HST6 := Lib.hid hst6; obtain ⟨c0, c1, c2', f0, f1, f2⟩ := (hst6.nth 4 rfl).cel3; clear hst6)
          have HST7 := Lib.hid ((HST6.out.pick (ρ := aCel go 69 #[.slice a n c, .int .i64 0, .int .i64 0] :: aOwn 76 2 (.slice a6 n6 c6) (out.map pairV ++ out2.map pairV) :: aOwn 76 2 ve (out2.map pairV) :: X2 :: aCel gb 172 #[.int .i64 (r : Int), .int .i64 f, .int .i64 to3] :: aOwn 172 3 (.slice (some ⟨gt, 0, none⟩) L.length ct2) (L.map tokV) :: aCel (w.heap.size + 1) 69 #[.slice none 0 0, .int .i64 0, .int .i64 0] :: aCel w.heap.size 66 A :: []) [4, 0, 1, 2, 3, 5, 6, 7] 8 rfl rfl).setCel 0 (.slice a6 n6 c6))
          go_roundg (L.length - (i + 1))
          case measure => have := HGK.out; omega
          case rel =>
            refine ⟨i + 1, j + 1, st2, out ++ out2, X2, a6, n6, c6, by go_num, by omega, rfl, Lib.hid ⟨(HRUN.out.2.2 st out HNEG.out (by rw [hpr])).symm.trans HL.out.1 |> fun h => by rw [hpr] at h; exact h, ?_, by have := HL.out.2.2.1; omega, hIN, by rw [List.length_append]; have := HLEN.out; omega⟩, ?_⟩
            · exact HOKJ.out.1 (by first | trivial | rfl)
            · rw [List.map_append]
              exact HST7.out.pick [3, 0, 1, 5, 6, 7] 8 rfl rfl
        · have heb : (er != 0) = true := by rw [bne_iff_ne]; exact her
          have hw : Ws.whole P of (L, k) s.size ([0], 0) = (out, er, f) := by
            have h1 := (HRUN.out.2.1 st out HNEG.out (by rw [hpr]; exact her)).symm.trans HL.out.1
            rw [hpr] at h1
            unfold Ws.whole
            simp only
            rw [← h1]
          have HW := Lib.hid hw
          clear hw her HRUN HOKJ HIN2
          have HSTO := Lib.hid (HST5.out.pick (ρ := aCel go 69 #[.slice a n c, .int .i64 0, .int .i64 0] :: aCel gb 172 #[.int .i64 (r : Int), .int .i64 f, .int .i64 to3] :: aOwn 76 2 (.slice a n c) (out.map pairV) :: aCel (w.heap.size + 1) 69 #[.slice none 0 0, .int .i64 0, .int .i64 0] :: []) [3, 2, 4, 6] 8 rfl rfl)
          clear HST5
          have y1 := (HSTO.out.at3 1 rfl).2.1
          obtain ⟨x0, x1, x2, f0, f1, f2⟩ := HSTO.out.cel3
          have HSTP := Lib.hid (HSTO.out.setCel 1 (.int .i64 er))
          have HSTQ := Lib.hid (HSTP.out.setCel 2 (.int .i64 f))
          have y1b := (HSTP.out.at3 1 rfl).2.1
          have y1c := (HSTQ.out.at3 1 rfl).2.1
          go_wp2_with (fail)
          refine wp_region_held_drew (S := (fun w' => w'.cell? ⟨gb, 1, none⟩ = some (.int .i64 f))) (by kernel_rfl) ?_ (fun hHeld => ?_)
          · (try dsimp only); (first | exact y1 | exact y1b | exact y1c)

          refine wpAnyH_take (i := 0) (v := ?_) rfl (by kernel_rfl) (by kernel_rfl) (by kernel_rfl) (fun _ _ _ h => h) (Or.inl ⟨by rfl, ?_⟩) (by assumption) ?_
          rotate_left; focus (intro w hSw; (try dsimp only at hSw); go_simp; try (with_reducible rfl); done)
          try simp only [List.getElem_toArray, List.getElem_cons_zero, List.getElem_cons_succ, Act.put, List.setIfInBounds_toArray, List.set_cons_zero, List.set_cons_succ]
          refine wpAnyH_take (i := 1) (v := ?_) rfl (by kernel_rfl) (by kernel_rfl) (by kernel_rfl) (fun _ _ _ h => h) (Or.inl ⟨by rfl, ?_⟩) (by assumption) ?_
          rotate_left; focus (intro w hSw; (try dsimp only at hSw); go_simp; try (with_reducible rfl); done)
          try simp only [List.getElem_toArray, List.getElem_cons_zero, List.getElem_cons_succ, Act.put, List.setIfInBounds_toArray, List.set_cons_zero, List.set_cons_succ]
          refine wpAnyH_take (i := 2) (v := ?_) rfl (by kernel_rfl) (by kernel_rfl) (by kernel_rfl) (fun _ _ _ h => h) (Or.inl ⟨by rfl, ?_⟩) (by assumption) ?_
          rotate_left; focus (intro w hSw; (try dsimp only at hSw); go_simp; try (with_reducible rfl); done)
          try simp only [List.getElem_toArray, List.getElem_cons_zero, List.getElem_cons_succ, Act.put, List.setIfInBounds_toArray, List.set_cons_zero, List.set_cons_succ]
          refine wpAnyH_take (i := 3) (v := ?_) rfl (by kernel_rfl) (by kernel_rfl) (by kernel_rfl) (fun _ _ _ h => h) (Or.inl ⟨by rfl, ?_⟩) (by assumption) ?_
          rotate_left; focus (intro w hSw; (try dsimp only at hSw); go_simp; try (with_reducible rfl); done)
          try simp only [List.getElem_toArray, List.getElem_cons_zero, List.getElem_cons_succ, Act.put, List.setIfInBounds_toArray, List.set_cons_zero, List.set_cons_succ]
          refine wpAnyH_ready (rs := [4]) (by kernel_rfl) (by simp) ?_
          refine AllReadyH.cons rfl (fun K hK => ?_) AllReadyH.nil
          go_simp
          refine hK.out _ _ ?_ (fun hHeld => ?_)
          · (try dsimp only); (first | exact y1 | exact y1b | exact y1c)
          clear hK K
          try simp only [List.getElem_toArray, List.getElem_cons_zero, List.getElem_cons_succ, Act.put, List.setIfInBounds_toArray, List.set_cons_zero, List.set_cons_succ]
          refine wpAnyH_take (i := 5) (v := ?_) rfl (by kernel_rfl) (by kernel_rfl) (by kernel_rfl) (fun _ _ _ h => h) (Or.inl ⟨by rfl, ?_⟩) (by assumption) ?_
          rotate_left; focus (intro w hSw; (try dsimp only at hSw); go_simp; try (with_reducible rfl); done)
          try simp only [List.getElem_toArray, List.getElem_cons_zero, List.getElem_cons_succ, Act.put, List.setIfInBounds_toArray, List.set_cons_zero, List.set_cons_succ]
          refine wpAnyH_ready (rs := [6]) (by kernel_rfl) (by simp) ?_
          refine AllReadyH.cons rfl (fun K hK => ?_) AllReadyH.nil
          go_simp
          refine hK.out _ _ ?_ (fun hHeld => ?_)
          · (try dsimp only); (first | exact y1 | exact y1b | exact y1c)
          clear hK K
          try simp only [List.getElem_toArray, List.getElem_cons_zero, List.getElem_cons_succ, Act.put, List.setIfInBounds_toArray, List.set_cons_zero, List.set_cons_succ]
          refine wpAnyH_done (by kernel_rfl) ?_ _
          clear y1 y1b y1c x0 x1 x2 f0 f1 f2
          have HST8 := Lib.hid HSTQ.out.drew
          generalize World.drew _ = w8 at HST8 ⊢
          obtain ⟨x0, x1, x2, f0, f1, f2⟩ := HST8.out.cel3
          obtain ⟨r0, r1, r2, h0, h1, h2⟩ := (HST8.out.nth 3 rfl).cel3
          have HSTW := Lib.hid ((((HST8.out.pick (ρ := aCel (w.heap.size + 1) 69 #[.slice none 0 0, .int .i64 0, .int .i64 0] :: aOwn 76 2 (.slice a n c) (out.map pairV) :: []) [3, 2] 4 rfl rfl).setCel 0 (.slice a n c)).setCel 1 (.int .i64 er)).setCel 2 (.int .i64 f))
          go_wp2_with (fail)
          obtain ⟨d0, d1, d2, -, -, -⟩ := HSTW.out.cel3
          refine bodyPost_ret (Ws.resT rfl _ _ (w.heap.size + 1) rfl d0 d1 d2) rfl ?_
          rw [HW.out]
          exact ⟨_, rfl, HSTW.out.drop⟩
    · have hil : i = L.length := by omega
      have hltI : decide ((i : Int) < (L.length : Int)) = false := decide_eq_false (by omega)
      have hltf : ¬ ((i : Int) < (L.length : Int)) := by omega
      have hrun := HL.out.1
      rw [Ws.run_nil (by omega)] at hrun
      have HRUN := Lib.hid hrun
      clear hlt hrun
      by_cases hk : 0 ≤ k
      · obtain ⟨hl1, hl2⟩ := HLX.out
        rw [if_pos hk] at hl1 hl2
        subst hl1 hl2
        have hw : Ws.whole P of (L, k) s.size ([0], 0) = (out, 9, k) := by
          unfold Ws.whole
          simp only
          rw [← HRUN.out]
          simp only
          rw [if_pos hk]
        have HW := Lib.hid hw
        clear hw hk hil
        have HSTO := Lib.hid (HSL.out.pick (ρ := aCel go 69 #[.slice a n c, .int .i64 0, .int .i64 0] :: aOwn 76 2 (.slice a n c) (out.map pairV) :: aCel (w.heap.size + 1) 69 #[.slice none 0 0, .int .i64 0, .int .i64 0] :: []) [1, 2, 4] 6 rfl rfl)
        obtain ⟨x0, x1, x2, f0, f1, f2⟩ := HSTO.out.cel3
        obtain ⟨r0, r1, r2, h0, h1, h2⟩ := (HSTO.out.nth 2 rfl).cel3
        have hne : ¬ w.heap.size + 1 = go ∧ ¬ go = w.heap.size + 1 := by have := HSTO.out.sep; simp [aCel] at this; omega
        obtain ⟨hne1, hne2⟩ := hne
        have HSTW := Lib.hid (((((((HSTO.out.setCel 1 (.int .i64 9)).setCel 2 (.int .i64 k))).pick (ρ := aCel (w.heap.size + 1) 69 #[.slice none 0 0, .int .i64 0, .int .i64 0] :: aOwn 76 2 (.slice a n c) (out.map pairV) :: []) [2, 1] 3 rfl rfl).setCel 0 (.slice a n c)).setCel 1 (.int .i64 9)).setCel 2 (.int .i64 k))
        go_wp2_with (fail)
        obtain ⟨d0, d1, d2, -, -, -⟩ := HSTW.out.cel3
        refine bodyPost_ret (Ws.resT rfl _ _ (w.heap.size + 1) rfl d0 d1 d2) rfl ?_
        rw [HW.out]
        exact ⟨_, rfl, HSTW.out.drop⟩
      · obtain ⟨hl1, hl2⟩ := HLX.out
        rw [if_neg hk] at hl1 hl2
        subst hl1 hl2
        have hw : Ws.whole P of (L, k) s.size ([0], 0) = (out ++ (P.fin st).2, (P.fin st).1, (s.size : Int)) := by
          unfold Ws.whole
          simp only
          rw [← HRUN.out]
          simp only
          rw [if_neg hk]
        have HW := Lib.hid hw
        have hj5 : j ≤ 5000 := by have := HL.out.2.2.1; have := HLL.out; omega
        have hok2 := (HOK.out j st 0 HL.out.2.1 hj5 (by omega)).2.2
        clear hw hk hil
        have HSTX := Lib.hid (HSL.out.pick (ρ := X :: aCel go 69 #[.slice a n c, .int .i64 0, .int .i64 0] :: aOwn 76 2 (.slice a n c) (out.map pairV) :: aCel (w.heap.size + 1) 69 #[.slice none 0 0, .int .i64 0, .int .i64 0] :: []) [0, 1, 2, 4] 6 rfl rfl)
        have HC := HEND.out g w wr _ j st X HSTX.out.bel (Nat.le_refl _) HL.out.2.2.2.1 HL.out.2.1 hj5 HSTX.out
        replace HC := Lib.hid HC
        generalize P.fin st = pr at HC hok2 HW
        obtain ⟨er, out2⟩ := pr
        simp only at HC hok2 HW
        have hle := HL.out.2.2.2.2
        have HLEN := Lib.hid (And.intro hok2 hle)
        clear hok2 hle
        go_wp2_with (fail)
        go_at_call 221
        refine HC.out.mono ?_
        rintro e5 w5 ⟨ve, X2, rfl, hst5⟩
        have HST5 := Lib.hid hst5
        clear hst5
        have HSTO := Lib.hid (HST5.out.pick (ρ := aOwn 76 2 (.slice a n c) (out.map pairV) :: aOwn 76 2 ve (out2.map pairV) :: aCel go 69 #[.slice a n c, .int .i64 0, .int .i64 0] :: aCel (w.heap.size + 1) 69 #[.slice none 0 0, .int .i64 0, .int .i64 0] :: []) [3, 1, 2, 4] 5 rfl rfl)
        obtain ⟨x0, x1, x2⟩ := HSTO.out.at3 2 rfl
        have HEN := Lib.hid (Ws.evtsR HSTO.out 1 rfl (by have := HLEN.out.1; omega))
        clear HST5 HSTX
        go_wp2_with (at_builtin; refine St.appSl evtE3 rfl (.tmp 92) (.tmp 93) rfl rfl HSTO.out (En := Enc.evt) (b2 := 16) rfl HEN.out rfl pairV (fun _ _ _ h => h) (fun a q hq => pair_one3 a q hq) (by have := HLEN.out; have := HLL.out; rw [List.length_map]; omega) (by have := HLEN.out; have := HLL.out; rw [List.length_map]; omega) ?_; intro v6 w6 hst6; obtain ⟨a6, n6, c6, rfl⟩ := Ws.shows (hst6.ownAt 0 rfl); have HST6 := Lib.hid hst6; obtain ⟨c0, c1, c2', f0, f1, f2⟩ := (hst6.nth 2 rfl).cel3; obtain ⟨r0, r1, r2, h0, h1, h2⟩ := (hst6.nth 3 rfl).cel3; obtain ⟨hne1, hne2⟩ : ¬ w.heap.size + 1 = go ∧ ¬ go = w.heap.size + 1 := (by have := (hst6.pick (ρ := aCel go 69 #[.slice a n c, .int .i64 0, .int .i64 0] :: aCel (w.heap.size + 1) 69 #[.slice none 0 0, .int .i64 0, .int .i64 0] :: []) [2, 3] 4 rfl rfl).sep; simp [aCel] at this; omega); clear hst6)
        have HSTW := Lib.hid ((((((((HST6.out.pick (ρ := aCel go 69 #[.slice a n c, .int .i64 0, .int .i64 0] :: aOwn 76 2 (.slice a6 n6 c6) (out.map pairV ++ out2.map pairV) :: aCel (w.heap.size + 1) 69 #[.slice none 0 0, .int .i64 0, .int .i64 0] :: []) [2, 0, 3] 4 rfl rfl).setCel 0 (.slice a6 n6 c6)).setCel 1 (.int .i64 er)).setCel 2 (.int .i64 (s.size : Int))).pick (ρ := aCel (w.heap.size + 1) 69 #[.slice none 0 0, .int .i64 0, .int .i64 0] :: aOwn 76 2 (.slice a6 n6 c6) (out.map pairV ++ out2.map pairV) :: []) [2, 1] 3 rfl rfl).setCel 0 (.slice a6 n6 c6)).setCel 1 (.int .i64 er)).setCel 2 (.int .i64 (s.size : Int)))
        obtain ⟨d0, d1, d2, -, -, -⟩ := HSTW.out.cel3
        refine bodyPost_ret (Ws.resT rfl _ _ (w.heap.size + 1) rfl d0 d1 d2) rfl ?_
        rw [HW.out]
        refine ⟨_, rfl, ?_⟩
        rw [List.map_append]
        exact HSTW.out.drop
end Go.Proofs.Ytahoapgmiecphaa

/-
  Build of the reference: what it computes.
-/
namespace Go.Proofs.Ytahoapgmiecphaa
set_option linter.unusedVariables false
open Go.ChangeShapes Go.WideShapes Go.ChangeAt Go.RowKit

set_option maxRecDepth 100000 in
theorem bdOver_any (T : Nat) (seen E : Int) (w : World) (hT : w.cell? ⟨T, 1, none⟩ = some (.int .i64 seen)) :
    Calls Try.prog 153 #[.int .i64 E, .pointer (some ⟨T, 0, none⟩)] w fun e w' => e = .returned (.tuple #[.agg #[.slice none 0 0, .int .i64 seen, .int .i64 E, .bool false], .slice none 0 0, .int .i64 E]) ∧ Below w.heap.size w w' := by
  have hst := (St.init w).alloc #[.slice none 0 0, .int .i64 seen, .int .i64 E, .bool false] 231
  have hlt := World.block_lt_of_cell? _ _ hT
  obtain ⟨k0, k1, k2, k3⟩ := hst.at4 0 rfl
  have HB := Lib.hid hst.bel
  clear hst
  go_enter Try.func153, Try.ntmps153
  go_wp2
  refine bodyPost_ret (v := .tuple #[.agg #[.slice none 0 0, .int .i64 seen, .int .i64 E, .bool false], .slice none 0 0, .int .i64 E]) ?_ rfl ?_
  · simp [results, Try.results153, go_sem, k0, k1, k2, k3]
  · exact ⟨rfl, HB.out⟩

theorem alloc_keep {w : World} {a : Addr} {v : Value} (o : Obj) (h : w.cell? a = some v) : (w.alloc o).cell? a = some v := (World.cell?_alloc_lt _ _ _ (World.block_lt_of_cell? w a h)).trans h
theorem set4_keep {w : World} {b o0 o1 o2 o3 : Nat} {u0 u1 u2 u3 : Value} {a : Addr} {v : Value} (hne : b ≠ a.block) (h : w.cell? a = some v) : ((((w.setCell ⟨b, o0, none⟩ u0).setCell ⟨b, o1, none⟩ u1).setCell ⟨b, o2, none⟩ u2).setCell ⟨b, o3, none⟩ u3).cell? a = some v := by
  rw [World.cell?_setCell_far _ _ _ _ hne, World.cell?_setCell_far _ _ _ _ hne, World.cell?_setCell_far _ _ _ _ hne, World.cell?_setCell_far _ _ _ _ hne]
  exact h

def Bd.RefRel (l : List (Int × List (Int × Int))) (acts : List (List (Int × Int))) (gts : List (List Int)) (seen : Int) (c : Nat) (X : Int × List Int × List (Int × Int)) (w : World) (μ : List Asrt) (a b i : Value) (wr : World) : Prop :=
  ∃ (n : Nat) (st : List Int) (out : List (Int × Int)), n ≤ 2000 ∧ i = .int .i64 (n + 1 : Nat) ∧ 0 < st.length ∧ st.length ≤ 60 ∧ out.length ≤ n ∧ St w wr (aOwn 3 1 a (st.map (Value.int .i64)) :: aOwn 76 2 b (out.map pairV) :: μ) ∧
    Hid (st.any (Bd.out acts.length) = false) ∧ Hid (Bd.go l acts gts seen c (2000 - n) st out = X)

set_option maxRecDepth 100000 in
set_option maxHeartbeats 32000000 in
theorem bdRef_any (t n seen ov : Int) (dn : Bool) (vp va vg vs : Value) (l : List (Int × List (Int × Int))) (acts : List (List (Int × Int))) (gts : List (List Int)) (st : List Int) (c : Nat) (w : World) (F : Nat → Prop) (hF : ∀ b, F b → b < w.heap.size) (h : Enc.prods.R F w [vp] l)
    (ha : ((Enc.two.sl 16).sl 24).R F w [va] acts) (hg : (((Enc.int .i64).sl 8).sl 24).R F w [vg] gts) (hs : ((Enc.int .i64).sl 8).R F w [vs] st) (he : Tb.all t n l acts gts = 0) (hc : (c : Int) ≤ t) (hsn : 0 ≤ seen ∧ seen ≤ 1099511627776)
    (hp : 0 < st.length) (h60 : st.length ≤ 60) (hany : st.any (Bd.out acts.length) = false) :
    Calls Try.prog 131 #[.agg #[.int .i64 t, .int .i64 n, vp], .agg #[va, vg], .agg #[vs, .int .i64 seen, .int .i64 ov, .bool dn], .int .i64 c] w (Bd.Ret (Bd.fin (decide ((c : Int) = t)) (Bd.go l acts gts seen c 2000 st []) seen) w) := by
  have HRT := Lib.hid (fun (s : List Int) h1 h2 => Bd.act_right he (st := s) h1 h2 hc)
  have HRS := Lib.hid (fun (s : List Int) (p : Nat) (s2 : List Int) h1 h2 h3 => Bd.red_some he (st := s) (s2 := s2) (p := p) h1 h2 h3)
  have HDI := Lib.hid (fun (p : Nat) hp x hx => Bd.dest_in he (p := p) hp (x := x) hx)
  have hzz := Bd.tb_zero he
  have HG8 := Lib.hid (fun (p : Nat) (hp : p < l.length) => ((Gr.err_zero hzz.1).2.2.2.2.2 (l.getD p (0, [])) (by simp [List.getD, hp])).1)
  have hm200 := hzz.2.1
  have HGA := Lib.hid hzz.2.2.2.1
  have hl40 := (Gr.err_zero hzz.1).2.2.2.2.1
  have ht30 := (Gr.err_zero hzz.1).2.1
  obtain ⟨aoa, ba, oa, ca, rfl, -, a3, a4⟩ := slSl ha
  have A3 := Lib.hid a3; have A4 := Lib.hid a4
  obtain ⟨aop, bp, op, cp, rfl, -, p3, p4⟩ := slProds h
  have P3 := Lib.hid p3; have P4 := Lib.hid p4
  obtain ⟨aog, bg, og, cg, rfl, -, g3, g4⟩ := slSl hg
  have G3 := Lib.hid g3; have G4 := Lib.hid g4
  have HSE := Lib.hid (fun (W : World) (hW : Below w.heap.size w W) => Enc.mono _ hs (fun _ h => h) (fun b hb => hW.block b (hF b hb)))
  have hst := (((((St.init w).alloc #[.int .i64 t, .int .i64 n, .slice aop l.length cp] 24).alloc #[.slice aoa acts.length ca, .slice aog gts.length cg] 64).alloc #[vs, .int .i64 seen, .int .i64 ov, .bool dn] 231).alloc #[.slice none 0 0, .int .i64 0, .int .i64 0, .bool false] 231).nilOwn 3 1
  simp only [World.size_alloc] at hst
  generalize hX : Bd.go l acts gts seen c 2000 st [] = X
  have HX := Lib.hid hX
  have HANY := Lib.hid hany
  clear h ha hg hs he hF hzz a3 a4 p3 p4 g3 g4 hX hany
  go_enter Try.func131, Try.ntmps131
  go_wp2_with (at_builtin; refine St.appSl intE rfl (.const (.slice none 0 0)) (.tmp 20) rfl rfl hst rfl (HSE.out _ hst.bel) rfl (Value.int .i64) (fun w cs a h => h.1) (fun a q hq => int_one2 a q hq) (by simp only [List.length_nil]; omega) (by simp only [List.length_nil]; omega) ?_; intro v' w1 hst1)
  rw [List.nil_append] at hst1
  have hst := hst1.nilOwn 76 2
  clear hst1
  go_loopw [12, 13, 14] (fun a b i wr => Bd.RefRel l acts gts seen c X w [aCel (w.heap.size + 1 + 1 + 1) 231 #[.slice none 0 0, .int .i64 0, .int .i64 0, .bool false], aCel (w.heap.size + 1 + 1) 231 #[vs, .int .i64 seen, .int .i64 ov, .bool dn], aCel (w.heap.size + 1) 64 #[.slice aoa acts.length ca, .slice aog gts.length cg], aCel w.heap.size 24 #[.int .i64 t, .int .i64 n, .slice aop l.length cp]] a b i wr) (fun _ _ i _ => 2002 - (intOf i).toNat)
  case atStart => exact ⟨0, st, [], by omega, rfl, hp, h60, by simp, hst.get2, HANY, HX⟩
  case round =>
    clear hst HX HANY hp h60 HSE st
    obtain ⟨q, st, out, hn, rfl, hp, h60, hol, hst, HANY, HX⟩ := hrel
    obtain ⟨g0, g1, g2⟩ := hst.at3 5 rfl
    obtain ⟨y0, y1⟩ := hst.at2 4 rfl
    obtain ⟨s0, s1, s2, s3⟩ := hst.at4 3 rfl
    obtain ⟨z0', z1', z2', z3'⟩ := hst.at4 2 rfl
    obtain ⟨r0, r1, r2, r3⟩ := HRT.out st hp HANY.out
    have hxx : Bd.act acts st c = (acts.getD (st.getD (st.length - 1) 0).toNat []).getD c (0, 0) := by unfold Bd.act; rfl
    obtain ⟨kk, hkk⟩ : ∃ kk : Nat, kk = st.length - 1 := ⟨_, rfl⟩
    have hkl : kk < st.length := by omega
    have hsub : (st.length : Int) - 1 = (kk : Int) := by omega
    have hw1 : IntKind.i64.wrap (kk : Int) = (kk : Int) := IntWalk.i64_in _ (by omega)
    rw [← hkk] at r0 r1 r2 hxx
    rcases hst.own.shape with ⟨rfl, he⟩ | ⟨ga, capa, rfl, hga1, hga2⟩
    · rw [List.map_eq_nil_iff] at he; rw [he] at hp; simp at hp
    rw [List.length_map] at hst ⊢
    have z1 := (hst.cellOwn (f := Value.int .i64) (fun _ => rfl) kk hkl 0).1
    obtain ⟨x, hx⟩ : ∃ x : Nat, st.getD kk 0 = x := Int.eq_ofNat_of_zero_le r0
    rw [hx] at r1 r2 hxx z1
    rw [Int.toNat_natCast] at r2 hxx
    have hxl : x < acts.length := by omega
    obtain ⟨rfl, hba, -⟩ := A3.out (by omega)
    obtain ⟨ai, ci, z2, z3⟩ := A4.out x hxl
    obtain ⟨_, br, orr, _, hv, -, z4, z5⟩ := slTwo z3
    simp only [Value.slice.injEq, true_and] at hv
    obtain ⟨rfl, rfl⟩ := hv
    have hcl : c < (acts.getD x []).length := by omega
    obtain ⟨rfl, hbr, -⟩ := z4 (by omega)
    obtain ⟨z6, z7, z8, z9⟩ := z5 c hcl
    rw [← hxx] at z6 z7 z8 z9
    generalize (acts.getD x []).length = ln at *
    generalize hA : Bd.act acts st c = y at *
    obtain ⟨y1', y2'⟩ := y
    simp only at z6 z7 z8 z9
    have z2 := bkeep hst.bel z2
    have z6 := bkeep hst.bel z6
    have z7 := bkeep hst.bel z7
    have HA := Lib.hid hA
    have HR3 := Lib.hid (Tb.right_iff.1 r3)
    have hcln : (c : Int) < ln := by omega
    have hxl2 : (x : Int) < acts.length := r1
    have HSUB := Lib.hid hkk
    clear hA r0 r2 r3 hx hxx z3 z4 z5 hkk
    have l1 := World.block_lt_of_cell? _ _ y0
    have l2 := World.block_lt_of_cell? _ _ z2
    have l3 := World.block_lt_of_cell? _ _ z6
    have l4 := World.block_lt_of_cell? _ _ g0
    have l5 := World.block_lt_of_cell? _ _ s0
    have l6 := World.block_lt_of_cell? _ _ z0'
    simp only at l6
    go_wp2
    go_region
    clear g0 g1 g2 y0 y1 s0 s1 s2 s3 z1 z2 z6 z7 l1 l2 l3 l4 l5 hga1 hga2 hxl hxl2 hba hbr hcl hcln hw1 hsub hkl z0' z1' z2' z3'
    have hst2 := (hst.alloc #[.int .i64 y1', .int .i64 y2'] 110).drew
    clear hst
    generalize hWW : (wr.alloc (.cells #[.int .i64 y1', .int .i64 y2'] 110)).drew = W at hst2 ⊢
    generalize wr.heap.size = D at hst2 l6 ⊢
    clear hWW wr
    obtain ⟨d0, d1⟩ := hst2.at2 0 rfl
    obtain ⟨g0, g1, g2⟩ := hst2.at3 6 rfl
    obtain ⟨y0, y1⟩ := hst2.at2 5 rfl
    obtain ⟨s0, s1, s2, s3⟩ := hst2.at4 4 rfl
    by_cases e0 : y1' = 0
    · have HE := Lib.hid (Bd.go_none (ps := l) (gts := gts) (seen := seen) (k := 2000 - q) (out := out) HA.out e0)
      rw [HX.out] at HE
      have HXE : Hid ((13, [], []) = X) := Lib.hid HE.out.symm
      subst e0
      clear HE
      go_wp2_with (fail)
      go_at_call 153
      refine (bdOver_any (w.heap.size + 1 + 1) seen 13 _ s1).mono ?_
      rintro e w5 ⟨rfl, hb5⟩
      replace hst2 := hst2.call hb5
      clear hb5
      obtain ⟨z0, z1, z2, z3, zf0, zf1, zf2, zf3⟩ := (hst2.nth 3 rfl).cel4
      have hstA := ((((hst2.nth 3 rfl).setCel 0 (.slice none 0 0)).setCel 1 (.int .i64 seen)).setCel 2 (.int .i64 13)).setCel 3 (.bool false)
      have HA := Lib.hid hstA
      clear hstA hst2
      go_wp2
      obtain ⟨k0, k1, k2, k3⟩ := HA.out.at4 0 rfl
      refine bodyPost_ret (v := .tuple #[.agg #[.slice none 0 0, .int .i64 seen, .int .i64 13, .bool false], .slice none 0 0, .int .i64 13]) ?_ rfl ?_
      · simp [results, Try.results131, go_sem, k0, k1, k2, k3]
      · rw [← HXE.out, Bd.fin_bad (by decide)]
        exact ⟨_, _, rfl, ((St.ofBel HA.out.bel).nilOwn _ _).nilOwn _ _⟩
    have e0b : (y1' == 0) = false := by rw [beq_eq_false_iff_ne]; exact e0
    by_cases hq : q = 2000
    · have HE := Lib.hid (Bd.go_end (ps := l) (gts := gts) (seen := seen) (out := out) HA.out e0)
      have hx := HX.out
      rw [hq, Nat.sub_self, HE.out] at hx
      have HXE := Lib.hid hx
      have hqb : (2000 : Int) < ((q + 1 : Nat) : Int) := by omega
      have hqb2 : (2000 : Int) < (q : Int) + 1 := by omega
      have hqb3 : 2000 < q + 1 := by omega
      clear hq hx HE e0
      go_wp2_with (fail)
      go_at_call 153
      refine (bdOver_any (w.heap.size + 1 + 1) seen 14 _ s1).mono ?_
      rintro e w5 ⟨rfl, hb5⟩
      replace hst2 := hst2.call hb5
      clear hb5
      obtain ⟨z0, z1, z2, z3, zf0, zf1, zf2, zf3⟩ := (hst2.nth 3 rfl).cel4
      have hstA := ((((hst2.nth 3 rfl).setCel 0 (.slice none 0 0)).setCel 1 (.int .i64 seen)).setCel 2 (.int .i64 14)).setCel 3 (.bool false)
      have HA := Lib.hid hstA
      clear hstA hst2
      go_wp2
      obtain ⟨k0, k1, k2, k3⟩ := HA.out.at4 0 rfl
      refine bodyPost_ret (v := .tuple #[.agg #[.slice none 0 0, .int .i64 seen, .int .i64 14, .bool false], .slice none 0 0, .int .i64 14]) ?_ rfl ?_
      · simp [results, Try.results131, go_sem, k0, k1, k2, k3]
      · rw [← HXE.out, Bd.fin_bad (by decide)]
        exact ⟨_, _, rfl, ((St.ofBel HA.out.bel).nilOwn _ _).nilOwn _ _⟩
    have hqb : (q : Int) + 1 ≤ 2000 := by omega
    have hqb2 : q + 1 ≤ 2000 := by omega
    obtain ⟨k, hk⟩ : ∃ k, 2000 - q = k + 1 := ⟨2000 - q - 1, by omega⟩
    have hx := HX.out
    rw [hk] at hx
    have HX1 := Lib.hid hx
    clear hx HX
    rcases HR3.out with ⟨h0, _⟩ | ⟨h0, hc1, hc2, hc3⟩ | ⟨h0, hc1, hc2⟩ | ⟨h0, hc1, hc2⟩
    · exact absurd h0 e0
    · try simp only at h0 hc1 hc2 hc3
      subst h0
      have HDC : Hid (decide ((c : Int) = t) = false) := Lib.hid (decide_eq_false (by omega))
      clear hk hq e0 e0b
      by_cases h60' : 60 ≤ st.length
      · have h60b : ((st.length : Int) == 60) = true := by rw [beq_iff_eq]; omega
        have hx := HX1.out
        rw [Bd.go_shiftDeep (ps := l) (gts := gts) (seen := seen) (k := k) (out := out) HA.out rfl h60'] at hx
        have HXE := Lib.hid hx
        clear hx h60'
        go_wp2_with (fail)
        go_at_call 153
        refine (bdOver_any (w.heap.size + 1 + 1) seen 14 _ s1).mono ?_
        rintro e w5 ⟨rfl, hb5⟩
        replace hst2 := hst2.call hb5
        clear hb5
        obtain ⟨z0, z1, z2, z3, zf0, zf1, zf2, zf3⟩ := (hst2.nth 3 rfl).cel4
        have hstA := ((((hst2.nth 3 rfl).setCel 0 (.slice none 0 0)).setCel 1 (.int .i64 seen)).setCel 2 (.int .i64 14)).setCel 3 (.bool false)
        have HA := Lib.hid hstA
        clear hstA hst2
        go_wp2
        obtain ⟨k0, k1, k2, k3⟩ := HA.out.at4 0 rfl
        refine bodyPost_ret (v := .tuple #[.agg #[.slice none 0 0, .int .i64 seen, .int .i64 14, .bool false], .slice none 0 0, .int .i64 14]) ?_ rfl ?_
        · simp [results, Try.results131, go_sem, k0, k1, k2, k3]
        · rw [← HXE.out, Bd.fin_bad (by decide)]
          exact ⟨_, _, rfl, ((St.ofBel HA.out.bel).nilOwn _ _).nilOwn _ _⟩
      have h60b : ((st.length : Int) == 60) = false := by rw [beq_eq_false_iff_ne]; omega
      have hx := HX1.out
      rw [Bd.go_shift (ps := l) (gts := gts) (seen := seen) (k := k) (out := out) HA.out rfl (by omega)] at hx
      have HXE := Lib.hid hx
      have hstD := hst2.get2.drew
      obtain ⟨bv, bn, bc, rfl⟩ : ∃ x n c, u13 = .slice x n c := by obtain ⟨x, c, h⟩ := (hst2.ownAt 2 rfl).isLen; exact ⟨_, _, _, h⟩
      have lD := World.block_lt_of_cell? _ _ d0
      have lS := World.block_lt_of_cell? _ _ s0
      have hws : IntKind.i64.wrap (seen + 1) = seen + 1 := IntWalk.i64_in _ (by omega)
      have hne1 : w.heap.size + 1 + 1 + 1 ≠ D := by omega
      have hne2 : w.heap.size + 1 + 1 + 1 ≠ w.heap.size + 1 + 1 := by omega
      have hbel := hst2.bel
      clear HX1 hst2 hx h60' HRT HRS HDI HG8 HGA A3 A4 P3 P4 G3 G4 HANY HA HR3 HSUB g0 g1 g2 y0 y1 hm200 hl40 ht30
      go_wp2
      go_region_held3 (fun w' => w'.cell? ⟨D, 1, none⟩ = some (.int .i64 y2') ∧ w'.cell? ⟨w.heap.size + 1 + 1, 1, none⟩ = some (.int .i64 seen)) (first | with_reducible exact ⟨d1, s1⟩ | with_reducible exact ⟨alloc_keep _ d1, alloc_keep _ s1⟩ | with_reducible exact ⟨alloc_keep _ (alloc_keep _ d1), alloc_keep _ (alloc_keep _ s1)⟩ | with_reducible exact ⟨set4_keep hne1 d1, set4_keep hne2 s1⟩ | go_keep) (first
        | (refine St.step1n intE (by rfl) (.tmp 70) (.tmp 73) (by rfl) (by rfl) hstD (.int .i64 y2') rfl _ 1 rfl (by simp) rfl (int_one2 _) (by rw [List.length_map]; unfold maxLen; omega) (by rw [List.length_map]; omega) ?_; intro g5 n5 c5 w5 hst5; obtain rfl : n5 = st.length + 1 := (by have := hst5.own.len; simpa using this); obtain ⟨d0, d1⟩ := hst5.at2 1 rfl; obtain ⟨s0, s1, s2, s3⟩ := hst5.at4 4 rfl)
        | (refine St.step1n intE (by rfl) (.tmp 70) (.tmp 73) (by rfl) (by rfl) (hstD.alloc #[.int .i64 2, .int .i64 seen] 76).get2 (.int .i64 y2') rfl _ 1 rfl (by simp) rfl (int_one2 _) (by rw [List.length_map]; unfold maxLen; omega) (by rw [List.length_map]; omega) ?_; intro g5 n5 c5 w5 hst5; obtain rfl : n5 = st.length + 1 := (by have := hst5.own.len; simpa using this); obtain ⟨d0, d1⟩ := hst5.at2 2 rfl; obtain ⟨s0, s1, s2, s3⟩ := hst5.at4 5 rfl)
        | (refine St.stepU intE (by rfl) (.tmp 70) (.tmp 73) (by rfl) (by rfl) ((hstD.skip _).alloc #[.int .i64 2, .int .i64 seen] 76).get2 (.int .i64 y2') _ 1 rfl (fun j q hq => (World.cell?_alloc_lt _ _ _ (by simp)).trans (cells_lit _ _ j q hq)) rfl (int_one2 _) (by rw [List.length_map]; unfold maxLen; omega) (by rw [List.length_map]; omega) ?_; intro g5 n5 c5 w5 hst5; simp only [World.size_alloc] at hst5; obtain rfl : n5 = st.length + 1 := (by have := hst5.own.len; simpa using this); obtain ⟨d0, d1⟩ := hst5.at2 2 rfl; obtain ⟨s0, s1, s2, s3⟩ := hst5.at4 5 rfl)
        | (refine St.step1n evtE2 (by rfl) (.tmp 79) (.tmp 83) (by rfl) (by rfl) hst5.get3 (pairV (2, seen)) rfl _ 1 rfl (by simp) rfl (pair_one2 _) (by rw [List.length_map]; unfold maxLen; omega) (by rw [List.length_map]; omega) ?_; intro g6 n6 c6 w6 hst6; have hstA := ((((hst6.get4.setCel 0 (.slice (some ⟨g5, 0, none⟩) (st.length + 1) c5)).setCel 1 (.int .i64 (seen + 1))).setCel 2 (.int .i64 0)).setCel 3 (.bool false)); have HR := Lib.hid (hstA.at4 0 rfl); have hst7 := hstA.drop.get2.two; obtain ⟨d0, d1⟩ := hst6.at2 2 rfl; obtain ⟨s0, s1, s2, s3⟩ := hst6.at4 4 rfl; obtain ⟨z0, z1, z2, z3, zf0, zf1, zf2, zf3⟩ := (hst6.nth 3 rfl).cel4)
        | (refine St.stepU evtE2 (by rfl) (.tmp 79) (.tmp 83) (by rfl) (by rfl) hst5.get4 (pairV (2, seen)) _ 1 rfl (hst5.celsAt (u := pairV (2, seen)) 1 rfl) rfl (pair_one2 _) (by rw [List.length_map]; unfold maxLen; omega) (by rw [List.length_map]; omega) ?_; intro g6 n6 c6 w6 hst6; have hstA := ((((hst6.get5.setCel 0 (.slice (some ⟨g5, 0, none⟩) (st.length + 1) c5)).setCel 1 (.int .i64 (seen + 1))).setCel 2 (.int .i64 0)).setCel 3 (.bool false)); have HR := Lib.hid (hstA.at4 0 rfl); have hst7 := hstA.drop.get2.two; obtain ⟨d0, d1⟩ := hst6.at2 3 rfl; obtain ⟨s0, s1, s2, s3⟩ := hst6.at4 5 rfl; obtain ⟨z0, z1, z2, z3, zf0, zf1, zf2, zf3⟩ := (hst6.nth 4 rfl).cel4))
      all_goals
        clear hst5 hst6
        go_wp2
        obtain ⟨k0, k1, k2, k3⟩ := HR.out
        refine bodyPost_ret (v := .tuple #[.agg #[.slice (some ⟨g5, 0, none⟩) (st.length + 1) c5, .int .i64 (seen + 1), .int .i64 0, .bool false], .slice (some ⟨g6, 0, none⟩) n6 c6, .int .i64 0]) ?_ rfl ?_
        · simp [results, Try.results131, go_sem, k0, k1, k2, k3]
        · rw [← HXE.out, HDC.out, Bd.fin_go rfl]
          exact ⟨_, _, rfl, by simp only [List.map_append]; exact hst7⟩
    · try simp only at h0 hc1 hc2
      subst h0
      obtain ⟨p, rfl⟩ := Int.eq_ofNat_of_zero_le hc1
      have hpl : p < l.length := by omega
      have HKK := Lib.hid hk
      clear hk hq e0 e0b
      obtain ⟨rfl, hbp, -⟩ := P3.out (by omega)
      obtain ⟨vb, q1, q2, q3, q4⟩ := P4.out p hpl
      obtain ⟨ab, -, -, cb, rfl, -⟩ := slTwo q3
      have q1 := bkeep hst2.bel q1
      have q2 := bkeep hst2.bel q2
      have h8 := HG8.out p hpl
      have hDI := HDI.out p hpl
      have hRS := HRS.out st p
      have lq := World.block_lt_of_cell? _ _ q1
      clear q3 q4
      generalize hq : l.getD p (0, []) = PP at *
      obtain ⟨hd, body⟩ := PP
      simp only at q1 q2 h8 hDI
      have hpl2 : (p : Int) < l.length := by omega
      by_cases hb : st.length ≤ body.length
      · have hx := HX1.out
        rw [Bd.go_redNo (ps := l) (gts := gts) (seen := seen) (k := k) (out := out) HA.out rfl (by simp only [Int.toNat_natCast]; rw [hq]; exact Bd.red_short hb)] at hx
        have HXE := Lib.hid hx
        have hb2 : (st.length : Int) ≤ body.length := by omega
        have hstP := hst2.alloc #[.int .i64 hd, .slice ab body.length cb] 127
        have lS := World.block_lt_of_cell? _ _ s1
        clear hx hq hDI hRS hst2
        go_wp2_with (fail)
        go_at_call 153
        refine (bdOver_any (w.heap.size + 1 + 1) seen 13 _ (alloc_keep _ s1)).mono ?_
        rintro e w5 ⟨rfl, hb5⟩
        replace hstP := hstP.call hb5
        clear hb5
        obtain ⟨z0, z1, z2, z3, zf0, zf1, zf2, zf3⟩ := (hstP.nth 4 rfl).cel4
        have hstA := ((((hstP.nth 4 rfl).setCel 0 (.slice none 0 0)).setCel 1 (.int .i64 seen)).setCel 2 (.int .i64 13)).setCel 3 (.bool false)
        have HA := Lib.hid hstA
        clear hstA hstP
        go_wp2
        obtain ⟨k0, k1, k2, k3⟩ := HA.out.at4 0 rfl
        refine bodyPost_ret (v := .tuple #[.agg #[.slice none 0 0, .int .i64 seen, .int .i64 13, .bool false], .slice none 0 0, .int .i64 13]) ?_ rfl ?_
        · simp [results, Try.results131, go_sem, k0, k1, k2, k3]
        · rw [← HXE.out, Bd.fin_bad (by decide)]
          exact ⟨_, _, rfl, ((St.ofBel HA.out.bel).nilOwn _ _).nilOwn _ _⟩
      obtain ⟨k1, hk1⟩ : ∃ k1 : Nat, st.length - body.length = k1 + 1 := ⟨st.length - body.length - 1, by omega⟩
      have hsub : (st.length : Int) - body.length = (k1 : Int) + 1 := by omega
      have hks : k1 < st.length := by omega
      have hcut : k1 + 1 ≤ st.length := by omega
      have z1 := (hst2.get2.cellOwn (f := Value.int .i64) (fun _ => rfl) k1 hks 0).1
      have lz := World.block_lt_of_cell? _ _ z1
      have hcap : st.length ≤ capa := by
        have := (hst2.ownAt 1 rfl)
        unfold Own at this
        rcases this.2 with ⟨h, _⟩ | ⟨g', cap2, cur, hv, _, _, hn2, _⟩
        · cases h
        · simp only [Value.slice.injEq, Option.some.injEq, Addr.mk.injEq, List.length_map] at hv hn2
          omega
      have hx := Bd.any_out HANY.out k1 hks
      generalize hxx : st.getD k1 0 = x at *
      obtain ⟨d0', d1', d2', d3'⟩ := hDI x hx
      obtain ⟨x, rfl⟩ := Int.eq_ofNat_of_zero_le hx.1
      have hxg : x < gts.length := by have := HGA.out; omega
      obtain ⟨rfl, hbg, -⟩ := G3.out (by omega)
      obtain ⟨ai', ci', z2, z3⟩ := G4.out x hxg
      have z2 := bkeep hst2.bel z2
      simp only [Int.toNat_natCast] at d0' d1' d2' d3'
      obtain ⟨_, bi, oi, _, hv, -, i3, i4⟩ := Enc.sl1 (En := Enc.int .i64) (Value.int .i64) (fun _ _ _ h => h.1) rfl 0 z3
      simp only [Value.slice.injEq, true_and] at hv
      obtain ⟨rfl, rfl⟩ := hv
      obtain ⟨hd, rfl⟩ := Int.eq_ofNat_of_zero_le d0'
      simp only [Int.toNat_natCast] at d2' d3'
      obtain ⟨rfl, hbi, -⟩ := i3 (by omega)
      have z4 := bkeep hst2.bel (i4 hd (by omega)).1
      have hDE : Bd.dest gts st (st.length - body.length) (hd : Int) = (gts.getD x []).getD hd 0 := by
        unfold Bd.dest; rw [hk1, Nat.add_sub_cancel, hxx, Int.toNat_natCast, Int.toNat_natCast]
      generalize (gts.getD x []).getD hd 0 = y at *
      generalize (gts.getD x []).length = ln2 at *
      have hdl : (hd : Int) < ln2 := d1'
      have hxg2 : (x : Int) < gts.length := by omega
      have l2 := World.block_lt_of_cell? _ _ z2
      have l4 := World.block_lt_of_cell? _ _ z4
      have l5 := World.block_lt_of_cell? _ _ y1
      have lS := World.block_lt_of_cell? _ _ s1
      have lD := World.block_lt_of_cell? _ _ d1
      have hw1 : IntKind.i64.wrap ((k1 : Int) + 1 - 1) = k1 := by rw [Int.add_sub_cancel]; exact IntWalk.i64_in _ (by omega)
      have hw2 : IntKind.i64.wrap (k1 : Int) = k1 := IntWalk.i64_in _ (by omega)
      have hk0 : (0 : Int) ≤ k1 := by omega
      have hbl : (body.length : Int) < st.length := by omega
      have hkc : (k1 : Int) + 1 ≤ capa := by omega
      have hsize := int_size st
      have hstP := hst2.alloc #[.int .i64 (hd : Int), .slice ab body.length cb] 127
      have HRED : Hid ((y < 0 → Bd.red gts st ((hd : Int), body) = none) ∧ (¬ y < 0 → Bd.red gts st ((hd : Int), body) = some (st.take (k1 + 1) ++ [y]))) := Lib.hid ⟨fun hy => Bd.red_neg (p := ((hd : Int), body)) hb (by simp only [hDE]; exact hy), fun hy => by
        rw [Bd.red_ok (p := ((hd : Int), body)) hb (by simp only [hDE]; exact hy)]
        simp only [hDE]
        rw [hk1]⟩
      have HQ := Lib.hid hq
      have HPP := Lib.hid hRS
      have HSZ := Lib.hid hsize
      clear hx d0' d1' d2' d3' hq hRS hsize hDI hDE hxx z3 i3 i4 hb hk1 hst2 HRT HRS HDI HG8 HGA A3 A4 P3 P4 G3 G4 HSUB HR3 hc2
      by_cases hy : y < 0
      · have hx := HX1.out
        rw [Bd.go_redNo (ps := l) (gts := gts) (seen := seen) (k := k) (out := out) HA.out rfl (by simp only [Int.toNat_natCast]; rw [HQ.out]; exact HRED.out.1 hy)] at hx
        have HXE := Lib.hid hx
        clear hx
        go_wp2
        go_quiet (fail)
        rename_i nq
        have hstQ := hstP.drewN nq
        obtain ⟨s0, s1, s2, s3⟩ := hstQ.at4 5 rfl
        clear hstP
        go_wp2_with (fail)
        go_at_call 153
        refine (bdOver_any (w.heap.size + 1 + 1) seen 13 _ s1).mono ?_
        rintro e w5 ⟨rfl, hb5⟩
        replace hstQ := hstQ.call hb5
        clear hb5
        obtain ⟨z0, z1, z2, z3, zf0, zf1, zf2, zf3⟩ := (hstQ.nth 4 rfl).cel4
        have hstA := ((((hstQ.nth 4 rfl).setCel 0 (.slice none 0 0)).setCel 1 (.int .i64 seen)).setCel 2 (.int .i64 13)).setCel 3 (.bool false)
        have HA := Lib.hid hstA
        clear hstA hstQ
        go_wp2
        obtain ⟨k0, k1, k2, k3⟩ := HA.out.at4 0 rfl
        refine bodyPost_ret (v := .tuple #[.agg #[.slice none 0 0, .int .i64 seen, .int .i64 13, .bool false], .slice none 0 0, .int .i64 13]) ?_ rfl ?_
        · simp [results, Try.results131, go_sem, k0, k1, k2, k3]
        · rw [← HXE.out, Bd.fin_bad (by decide)]
          exact ⟨_, _, rfl, ((St.ofBel HA.out.bel).nilOwn _ _).nilOwn _ _⟩
      have hy0 : 0 ≤ y := by omega
      have hred := HRED.out.2 hy
      have hsv := HPP.out _ hpl HANY.out hred
      have HSV := Lib.hid hsv
      have hll : (st.take (k1 + 1) ++ [y]).length = k1 + 1 + 1 := by rw [List.length_append, List.length_singleton, List.length_take]; omega
      have hlm : ((st.take (k1 + 1)).map (Value.int .i64)).length = k1 + 1 := by rw [List.length_map, List.length_take]; omega
      have hstQ0 := hstP.get3.take (HSZ.out) (k1 + 1) (by rw [List.length_map]; omega)
      rw [← List.map_take] at hstQ0
      have hol2 : (out ++ [(4, (p : Int))]).length ≤ q + 1 := by rw [List.length_append, List.length_singleton]; omega
      by_cases h60' : 60 < k1 + 1 + 1
      · have hx := HX1.out
        rw [Bd.go_redDeep (ps := l) (gts := gts) (seen := seen) (k := k) (out := out) HA.out rfl (by simp only [Int.toNat_natCast]; rw [HQ.out]; exact hred) (by rw [hll]; exact h60')] at hx
        have HXE := Lib.hid hx
        have HLM := Lib.hid hlm
        have h60i : (60 : Int) < (k1 : Int) + 1 + 1 := by omega
        clear hx hred hsv hll hlm hstP
        go_wp2
        go_quiet (fail)
        rename_i nq
        have hstQ := hstQ0.drewN nq
        clear hstQ0
        go_wp2_with (at_builtin; refine St.app1n intE rfl (.tmp 131) (.tmp 133) rfl rfl hstQ (.int .i64 y) rfl _ 1 rfl (by simp) rfl (int_one2 _) (by rw [HLM.out]; unfold maxLen; omega) (by rw [HLM.out]; omega) ?_; intro g5 n5 c5 w5 hst5; obtain rfl : n5 = k1 + 1 + 1 := (by have h5 := hst5.own.len; rw [List.length_append, HLM.out] at h5; simpa using h5); obtain ⟨s0, s1, s2, s3⟩ := hst5.at4 5 rfl)
        go_wp2_with (fail)
        go_at_call 153
        refine (bdOver_any (w.heap.size + 1 + 1) seen 14 _ s1).mono ?_
        rintro e w5 ⟨rfl, hb5⟩
        replace hst5 := hst5.call hb5
        clear hb5
        obtain ⟨z0, z1, z2, z3, zf0, zf1, zf2, zf3⟩ := (hst5.nth 4 rfl).cel4
        have hstA := ((((hst5.nth 4 rfl).setCel 0 (.slice none 0 0)).setCel 1 (.int .i64 seen)).setCel 2 (.int .i64 14)).setCel 3 (.bool false)
        have HA := Lib.hid hstA
        clear hstA hst5
        go_wp2
        obtain ⟨k0, k1, k2, k3⟩ := HA.out.at4 0 rfl
        refine bodyPost_ret (v := .tuple #[.agg #[.slice none 0 0, .int .i64 seen, .int .i64 14, .bool false], .slice none 0 0, .int .i64 14]) ?_ rfl ?_
        · simp [results, Try.results131, go_sem, k0, k1, k2, k3]
        · rw [← HXE.out, Bd.fin_bad (by decide)]
          exact ⟨_, _, rfl, ((St.ofBel HA.out.bel).nilOwn _ _).nilOwn _ _⟩
      · have hx := HX1.out
        rw [Bd.go_red (ps := l) (gts := gts) (seen := seen) (k := k) (out := out) HA.out rfl (by simp only [Int.toNat_natCast]; rw [HQ.out]; exact hred) (by rw [hll]; exact h60')] at hx
        have HXE := Lib.hid hx
        have HLM := Lib.hid hlm
        have HLL := Lib.hid hll
        have h60i : (k1 : Int) + 1 + 1 ≤ 60 := by omega
        have h60n : k1 + 1 + 1 ≤ 60 := by omega
        clear hx hred hsv hll hlm hstP h60'
        go_wp2
        go_quiet (fail)
        rename_i nq
        have hstQ := hstQ0.drewN nq
        clear hstQ0
        go_wp2_with (first
          | (at_builtin; refine St.app1n intE rfl (.tmp 131) (.tmp 133) rfl rfl hstQ (.int .i64 y) rfl _ 1 rfl (by simp) rfl (int_one2 _) (by rw [HLM.out]; unfold maxLen; omega) (by rw [HLM.out]; omega) ?_; intro g5 n5 c5 w5 hst5; obtain rfl : n5 = k1 + 1 + 1 := (by have h5 := hst5.own.len; rw [List.length_append, HLM.out] at h5; simpa using h5); obtain ⟨d0, d1⟩ := hst5.at2 2 rfl; have lD := World.block_lt_of_cell? _ _ d1)
          | (at_builtin; refine St.app1n evtE2 rfl (.tmp 143) (.tmp 147) rfl rfl hst5.get4 (pairV (4, (p : Int))) rfl _ 1 rfl (by simp) rfl (pair_one2 _) (by rw [List.length_map]; unfold maxLen; omega) (by rw [List.length_map]; omega) ?_; intro g6 n6 c6 w6 hst6))
        have hst7 := hst6.get2.get3.drop.get3.drop
        have hrel : Bd.RefRel l acts gts seen c X w [aCel (w.heap.size + 1 + 1 + 1) 231 #[.slice none 0 0, .int .i64 0, .int .i64 0, .bool false], aCel (w.heap.size + 1 + 1) 231 #[vs, .int .i64 seen, .int .i64 ov, .bool dn], aCel (w.heap.size + 1) 64 #[.slice (some ⟨ba, oa, none⟩) acts.length ca, .slice (some ⟨bg, og, none⟩) gts.length cg], aCel w.heap.size 24 #[.int .i64 t, .int .i64 n, .slice (some ⟨bp, op, none⟩) l.length cp]] (.slice (some ⟨g5, 0, none⟩) (k1 + 1 + 1) c5) (.slice (some ⟨g6, 0, none⟩) n6 c6) (.int .i64 ((q : Int) + 1 + 1)) w6 :=
          ⟨q + 1, st.take (k1 + 1) ++ [y], out ++ [(4, (p : Int))], hqb2, by go_num, HSV.out.1, by rw [HLL.out]; exact h60n, hol2, by rw [List.map_append, List.map_append]; exact hst7, Lib.hid HSV.out.2, Lib.hid (by rw [show 2000 - (q + 1) = k by have := HKK.out; omega]; exact HXE.out)⟩
        go_roundw
        case rel => exact hrel
        case measure => simp [intOf]; omega
    · try simp only at h0 hc1
      subst h0 hc1
      have hx := HX1.out
      rw [Bd.go_acc (ps := l) (gts := gts) (seen := seen) (k := k) (out := out) HA.out rfl] at hx
      have HXE := Lib.hid hx
      have HDC : Hid (decide ((c : Int) = t) = true) := Lib.hid (decide_eq_true hc2)
      clear hk hq e0 e0b hc2 hx
      obtain ⟨z0, z1, z2, z3, zf0, zf1, zf2, zf3⟩ := (hst2.nth 3 rfl).cel4
      obtain ⟨bv, bn, bc, rfl⟩ : ∃ x n c, u13 = .slice x n c := by obtain ⟨x, c, h⟩ := (hst2.ownAt 2 rfl).isLen; exact ⟨_, _, _, h⟩
      have hstA := (((hst2.get4.setCel 0 (.slice none 0 0)).setCel 1 (.int .i64 seen)).setCel 2 (.int .i64 0)).setCel 3 (.bool true)
      have HB := Lib.hid hstA
      clear hst2 hstA
      go_wp2
      obtain ⟨k0, k1, k2, k3⟩ := HB.out.at4 0 rfl
      refine bodyPost_ret (v := .tuple #[.agg #[.slice none 0 0, .int .i64 seen, .int .i64 0, .bool true], .slice bv bn bc, .int .i64 0]) ?_ rfl ?_
      · simp [results, Try.results131, go_sem, k0, k1, k2, k3]
      · rw [← HXE.out, HDC.out, Bd.fin_end rfl]
        exact ⟨_, _, rfl, (HB.out.nth 3 rfl).nilOwn _ _⟩
end Go.Proofs.Ytahoapgmiecphaa

/-
  Push of the reference's parser: what it does to its block.
-/
namespace Go.Proofs.Ytahoapgmiecphaa
set_option linter.unusedVariables false
set_option linter.unusedSimpArgs false
open Go.ChangeShapes Go.WideShapes Go.ChangeAt Go.RowKit

theorem pre_old {A C : Array Value} {i : Nat} {x : Value} (h : A[i]? = some x) : (A ++ C)[i]? = some x := by
  have hi := (Array.getElem?_eq_some_iff.1 h).1
  rw [Array.getElem?_append_left hi]; exact h

set_option maxRecDepth 100000 in
set_option maxHeartbeats 4000000 in
theorem wsRefCPush (wb : World) (A U : Array Value) (m : Mk.Md) (v0 : Value) (Pc : Array Value) (vn vt vp vr va vg : Value) (hm : MadeAt (fun b => b < wb.heap.size) wb A m v0 Pc vn vt vp vr va vg) (hmode : m.2.2.2.1 = 1) (he : Rw.all m.2.2.1.1 m.2.2.1.2.1 m.2.2.1.2.2 m.2.2.2.2.1 = 0) (tt : Nat) (htt : (tt : Int) = m.2.2.1.1) (g : Nat) (hU : U.size = 4) :
    Ws.PushBy (Ws.climber m.2.2.1.2.2 m.2.2.2.2.1 tt) (Ws.okC m.2.2.1.1 m.2.2.1.2.1 m.2.2.1.2.2.length) (Ws.InC g 240 A U) tt wb (fun c w Q => Calls Try.prog 84 #[.pointer (some ⟨g, 0, none⟩), .int .i64 (c : Int)] w Q) := by
  intro w0 w μ j s X c hbw hw0 hin hok hj hc hst
  obtain ⟨v, rfl⟩ := hin
  replace hst := hst.unpair
  obtain ⟨a0, a259, a260, a261, a262, a263, a264, a265⟩ := hm.arr
  have hz := Gr.err_zero (Cl.rw_zero he).1
  have hcc : (c : Int) ≤ m.2.2.1.1 := by omega
  have HC : Hid (∀ W, St w0 W (aCel g 240 (Ws.four A U v s.2 0 false) :: aOwn 238 4 v (s.1.reverse.map todoV) :: μ) → Below wb.heap.size wb W → Calls Try.prog 130 #[.agg #[.int .i64 m.2.2.1.1, .int .i64 m.2.2.1.2.1, vp], vr, .agg #[v, .int .i64 s.2, .int .i64 0, .bool false], .int .i64 (c : Int)] W (Cl.Ret (Cl.fin false (Cl.push m.2.2.1.2.2 m.2.2.2.2.1 c s.2 s.1) s.2) W)) := Lib.hid (fun W hW hbW => by
    have h := clRef_any m.2.2.1.1 m.2.2.1.2.1 s.2 0 false vp vr v m.2.2.1.2.2 m.2.2.2.2.1 s.1.reverse c W (fun b => b < W.heap.size) (fun b h => h) (Enc.mono _ hm.prods (fun b hb => Nat.lt_of_lt_of_le hb hbW.size) (fun b hb => hbW.block b hb)) (Enc.mono _ hm.rows (fun b hb => Nat.lt_of_lt_of_le hb hbW.size) (fun b hb => hbW.block b hb)) (Ws.encC hz.2.1 hz.2.2.2.1 hz.2.2.2.2.1 hok hW 1 rfl) he hcc (by have := hok.1; omega) (by rw [List.length_reverse]; exact hok.2.1) (fun x hx => hok.2.2 x (List.mem_reverse.1 hx))
    rw [List.reverse_reverse] at h
    rw [decide_eq_false (by omega : ¬ ((c : Nat) : Int) = m.2.2.1.1), Cl.push_go _ hok.2.1] at h
    exact h)
  have HZ := Lib.hid (Ws.finC_zero (last := false) (x := Cl.push m.2.2.1.2.2 m.2.2.2.2.1 c s.2 s.1) (seen := s.2))
  have hsz := hm.size
  have HSZ := Lib.hid hsz
  have y259 := hst.celAt (Ws.four_old (A := A) (Z := U) (v := v) (seen := s.2) (over := 0) (done := false) a259)
  have y260 := hst.celAt (Ws.four_old (A := A) (Z := U) (v := v) (seen := s.2) (over := 0) (done := false) a260)
  have y261 := hst.celAt (Ws.four_old (A := A) (Z := U) (v := v) (seen := s.2) (over := 0) (done := false) a261)
  have y262 := hst.celAt (Ws.four_old (A := A) (Z := U) (v := v) (seen := s.2) (over := 0) (done := false) a262)
  have y263 := hst.celAt (Ws.four_old (A := A) (Z := U) (v := v) (seen := s.2) (over := 0) (done := false) a263)
  rw [hmode] at y262
  obtain ⟨b0, b1, b2, b3⟩ := Ws.four_new (A := A) (Z := U) (v := v) (seen := s.2) (over := 0) (done := false) hsz
  have yc0 := hst.celAt b0; have yc1 := hst.celAt b1; have yc2 := hst.celAt b2; have yc3 := hst.celAt b3
  simp only [Nat.reduceAdd] at yc0 yc1 yc2 yc3
  have HST := Lib.hid hst
  have HA := Lib.hid (And.intro a259 (And.intro a260 (And.intro a261 (And.intro a263 (And.intro a264 a265)))))
  have HBW := Lib.hid hbw
  simp only [Ws.climber]
  generalize (Cl.fin false (Cl.push m.2.2.1.2.2 m.2.2.2.2.1 c s.2 s.1) s.2) = r at *
  obtain ⟨e, st2, seen2, over2, done2, out⟩ := r
  simp only at HC HZ ⊢
  generalize m.2.2.1.1 = t at *
  generalize m.2.2.1.2.1 = n at *
  generalize hseen : s.2 = seen at *
  generalize hst1 : s.1.reverse.map todoV = s1 at *
  clear hst hm he hok hz hcc hsz a0 a259 a260 a261 a262 a263 a264 a265 b0 b1 b2 b3 hbw hw0 htt hj hseen hst1 hmode hU hc 
  go_enter Try.func84, Try.ntmps84
  go_wp2_with (fail)
  refine wp_region_held_drew (S := (fun w' => w'.cell? ⟨g, 259, none⟩ = some (.int .i64 t) ∧ w'.cell? ⟨g, 260, none⟩ = some (.int .i64 n) ∧ w'.cell? ⟨g, 261, none⟩ = some vp ∧ w'.cell? ⟨g, 263, none⟩ = some vr)) (by kernel_rfl) ?_ (fun hHeld => ?_)
  · (try dsimp only); (first | exact ⟨y259, y260, y261, y263⟩ | exact ⟨z259, z260, z261, z263⟩ | exact ⟨x259, x260, x261, x263⟩)

  refine wpAnyH_take (i := 0) (v := ?_) rfl (by kernel_rfl) (by kernel_rfl) (by kernel_rfl) (fun _ _ _ h => h) (Or.inl ⟨by rfl, ?_⟩) (by assumption) ?_
  rotate_left; focus (intro w hSw; (try dsimp only at hSw); go_simp; try (with_reducible rfl); done)
  try simp only [List.getElem_toArray, List.getElem_cons_zero, List.getElem_cons_succ, Act.put, List.setIfInBounds_toArray, List.set_cons_zero, List.set_cons_succ]
  refine wpAnyH_take (i := 1) (v := ?_) rfl (by kernel_rfl) (by kernel_rfl) (by kernel_rfl) (fun _ _ _ h => h) (Or.inl ⟨by rfl, ?_⟩) (by assumption) ?_
  rotate_left; focus (intro w hSw; (try dsimp only at hSw); go_simp; try (with_reducible rfl); done)
  try simp only [List.getElem_toArray, List.getElem_cons_zero, List.getElem_cons_succ, Act.put, List.setIfInBounds_toArray, List.set_cons_zero, List.set_cons_succ]
  refine wpAnyH_take (i := 2) (v := ?_) rfl (by kernel_rfl) (by kernel_rfl) (by kernel_rfl) (fun _ _ _ h => h) (Or.inl ⟨by rfl, ?_⟩) (by assumption) ?_
  rotate_left; focus (intro w hSw; (try dsimp only at hSw); go_simp; try (with_reducible rfl); done)
  try simp only [List.getElem_toArray, List.getElem_cons_zero, List.getElem_cons_succ, Act.put, List.setIfInBounds_toArray, List.set_cons_zero, List.set_cons_succ]
  refine wpAnyH_take (i := 3) (v := ?_) rfl (by kernel_rfl) (by kernel_rfl) (by kernel_rfl) (fun _ _ _ h => h) (Or.inl ⟨by rfl, ?_⟩) (by assumption) ?_
  rotate_left; focus (intro w hSw; (try dsimp only at hSw); go_simp; try (with_reducible rfl); done)
  try simp only [List.getElem_toArray, List.getElem_cons_zero, List.getElem_cons_succ, Act.put, List.setIfInBounds_toArray, List.set_cons_zero, List.set_cons_succ]
  refine wpAnyH_take (i := 4) (v := ?_) rfl (by kernel_rfl) (by kernel_rfl) (by kernel_rfl) (fun _ _ _ h => h) (Or.inl ⟨by rfl, ?_⟩) (by assumption) ?_
  rotate_left; focus (intro w hSw; (try dsimp only at hSw); go_simp; try (with_reducible rfl); done)
  try simp only [List.getElem_toArray, List.getElem_cons_zero, List.getElem_cons_succ, Act.put, List.setIfInBounds_toArray, List.set_cons_zero, List.set_cons_succ]
  refine wpAnyH_take (i := 5) (v := ?_) rfl (by kernel_rfl) (by kernel_rfl) (by kernel_rfl) (fun _ _ _ h => h) (Or.inl ⟨by rfl, ?_⟩) (by assumption) ?_
  rotate_left; focus (intro w hSw; (try dsimp only at hSw); go_simp; try (with_reducible rfl); done)
  try simp only [List.getElem_toArray, List.getElem_cons_zero, List.getElem_cons_succ, Act.put, List.setIfInBounds_toArray, List.set_cons_zero, List.set_cons_succ]
  refine wpAnyH_take (i := 6) (v := ?_) rfl (by kernel_rfl) (by kernel_rfl) (by kernel_rfl) (fun _ _ _ h => h) (Or.inl ⟨by rfl, ?_⟩) (by assumption) ?_
  rotate_left; focus (intro w hSw; (try dsimp only at hSw); go_simp; try (with_reducible rfl); done)
  try simp only [List.getElem_toArray, List.getElem_cons_zero, List.getElem_cons_succ, Act.put, List.setIfInBounds_toArray, List.set_cons_zero, List.set_cons_succ]
  refine wpAnyH_take (i := 7) (v := ?_) rfl (by kernel_rfl) (by kernel_rfl) (by kernel_rfl) (fun _ _ _ h => h) (Or.inl ⟨by rfl, ?_⟩) (by assumption) ?_
  rotate_left; focus (intro w hSw; (try dsimp only at hSw); go_simp; try (with_reducible rfl); done)
  try simp only [List.getElem_toArray, List.getElem_cons_zero, List.getElem_cons_succ, Act.put, List.setIfInBounds_toArray, List.set_cons_zero, List.set_cons_succ]
  refine wpAnyH_take (i := 8) (v := ?_) rfl (by kernel_rfl) (by kernel_rfl) (by kernel_rfl) (fun _ _ _ h => h) (Or.inl ⟨by rfl, ?_⟩) (by assumption) ?_
  rotate_left; focus (intro w hSw; (try dsimp only at hSw); go_simp; try (with_reducible rfl); done)
  try simp only [List.getElem_toArray, List.getElem_cons_zero, List.getElem_cons_succ, Act.put, List.setIfInBounds_toArray, List.set_cons_zero, List.set_cons_succ]
  refine wpAnyH_take (i := 9) (v := ?_) rfl (by kernel_rfl) (by kernel_rfl) (by kernel_rfl) (fun _ _ _ h => h) (Or.inl ⟨by rfl, ?_⟩) (by assumption) ?_
  rotate_left; focus (intro w hSw; (try dsimp only at hSw); go_simp; try (with_reducible rfl); done)
  try simp only [List.getElem_toArray, List.getElem_cons_zero, List.getElem_cons_succ, Act.put, List.setIfInBounds_toArray, List.set_cons_zero, List.set_cons_succ]
  refine wpAnyH_take (i := 10) (v := ?_) rfl (by kernel_rfl) (by kernel_rfl) (by kernel_rfl) (fun _ _ _ h => h) (Or.inl ⟨by rfl, ?_⟩) (by assumption) ?_
  rotate_left; focus (intro w hSw; (try dsimp only at hSw); go_simp; try (with_reducible rfl); done)
  try simp only [List.getElem_toArray, List.getElem_cons_zero, List.getElem_cons_succ, Act.put, List.setIfInBounds_toArray, List.set_cons_zero, List.set_cons_succ]
  refine wpAnyH_take (i := 11) (v := ?_) rfl (by kernel_rfl) (by kernel_rfl) (by kernel_rfl) (fun _ _ _ h => h) (Or.inl ⟨by rfl, ?_⟩) (by assumption) ?_
  rotate_left; focus (intro w hSw; (try dsimp only at hSw); go_simp; try (with_reducible rfl); done)
  try simp only [List.getElem_toArray, List.getElem_cons_zero, List.getElem_cons_succ, Act.put, List.setIfInBounds_toArray, List.set_cons_zero, List.set_cons_succ]
  refine wpAnyH_take (i := 12) (v := ?_) rfl (by kernel_rfl) (by kernel_rfl) (by kernel_rfl) (fun _ _ _ h => h) (Or.inl ⟨by rfl, ?_⟩) (by assumption) ?_
  rotate_left; focus (intro w hSw; (try dsimp only at hSw); go_simp; try (with_reducible rfl); done)
  try simp only [List.getElem_toArray, List.getElem_cons_zero, List.getElem_cons_succ, Act.put, List.setIfInBounds_toArray, List.set_cons_zero, List.set_cons_succ]
  refine wpAnyH_take (i := 13) (v := ?_) rfl (by kernel_rfl) (by kernel_rfl) (by kernel_rfl) (fun _ _ _ h => h) (Or.inl ⟨by rfl, ?_⟩) (by assumption) ?_
  rotate_left; focus (intro w hSw; (try dsimp only at hSw); go_simp; try (with_reducible rfl); done)
  try simp only [List.getElem_toArray, List.getElem_cons_zero, List.getElem_cons_succ, Act.put, List.setIfInBounds_toArray, List.set_cons_zero, List.set_cons_succ]
  refine wpAnyH_take (i := 15) (v := ?_) rfl (by kernel_rfl) (by kernel_rfl) (by kernel_rfl) (fun _ _ _ h => h) (Or.inl ⟨by rfl, ?_⟩) (by assumption) ?_
  rotate_left; focus (intro w hSw; (try dsimp only at hSw); go_simp; try (with_reducible rfl); done)
  try simp only [List.getElem_toArray, List.getElem_cons_zero, List.getElem_cons_succ, Act.put, List.setIfInBounds_toArray, List.set_cons_zero, List.set_cons_succ]
  refine wpAnyH_ready (rs := [14]) (by kernel_rfl) (by simp) ?_
  refine AllReadyH.cons rfl (fun K hK => ?_) AllReadyH.nil
  go_simp
  refine hK.out _ _ ?_ (fun hHeld => ?_)
  · (try dsimp only); (first | exact ⟨y259, y260, y261, y263⟩ | exact ⟨z259, z260, z261, z263⟩ | exact ⟨x259, x260, x261, x263⟩)
  clear hK K
  try simp only [List.getElem_toArray, List.getElem_cons_zero, List.getElem_cons_succ, Act.put, List.setIfInBounds_toArray, List.set_cons_zero, List.set_cons_succ]
  refine wpAnyH_ready (rs := [16]) (by kernel_rfl) (by simp) ?_
  refine AllReadyH.cons rfl (fun K hK => ?_) AllReadyH.nil
  go_simp
  (go_at_call 130; refine (HC.out _ HST.out.drew HBW.out.drew).mono ?_; rintro e1 w1 ⟨vs2, ve, rfl, hr⟩; simp only at hr; obtain ⟨av2, nv2, cv2, rfl⟩ := Ws.shows (hr.ownAt 0 rfl); have HST1 := Lib.hid (show St w0 w1 (aCel g 240 (Ws.four A U v seen 0 false) :: aOwn 238 4 (.slice av2 nv2 cv2) (st2.map todoV) :: aOwn 76 2 ve (out.map pairV) :: μ) from (HST.out.drew.joined hr).pick (ρ := aCel g 240 (Ws.four A U v seen 0 false) :: aOwn 238 4 (.slice av2 nv2 cv2) (st2.map todoV) :: aOwn 76 2 ve (out.map pairV) :: μ) [2, 0, 1] 4 rfl rfl); have z259 := HST1.out.celAt (Ws.four_old (A := A) (Z := U) (v := v) (seen := seen) (over := 0) (done := false) HA.out.1); have z260 := HST1.out.celAt (Ws.four_old (A := A) (Z := U) (v := v) (seen := seen) (over := 0) (done := false) HA.out.2.1); have z261 := HST1.out.celAt (Ws.four_old (A := A) (Z := U) (v := v) (seen := seen) (over := 0) (done := false) HA.out.2.2.1); have z263 := HST1.out.celAt (Ws.four_old (A := A) (Z := U) (v := v) (seen := seen) (over := 0) (done := false) HA.out.2.2.2.1); have f0 := HST1.out.celFree 266; have g0 := HST1.out.celAt (Ws.four_new (A := A) (Z := U) (v := v) (seen := seen) (over := 0) (done := false) HSZ.out).1; have f1 := HST1.out.celFree 267; have g1 := HST1.out.celAt (Ws.four_new (A := A) (Z := U) (v := v) (seen := seen) (over := 0) (done := false) HSZ.out).2.1; have f2 := HST1.out.celFree 268; have g2 := HST1.out.celAt (Ws.four_new (A := A) (Z := U) (v := v) (seen := seen) (over := 0) (done := false) HSZ.out).2.2.1; have f3 := HST1.out.celFree 269; have g3 := HST1.out.celAt (Ws.four_new (A := A) (Z := U) (v := v) (seen := seen) (over := 0) (done := false) HSZ.out).2.2.2; simp only [Nat.reduceAdd] at g0 g1 g2 g3; clear hr)
  refine hK.out _ _ ?_ (fun hHeld => ?_)
  · (try dsimp only); (first | exact ⟨y259, y260, y261, y263⟩ | exact ⟨z259, z260, z261, z263⟩ | exact ⟨x259, x260, x261, x263⟩)
  clear hK K
  try simp only [List.getElem_toArray, List.getElem_cons_zero, List.getElem_cons_succ, Act.put, List.setIfInBounds_toArray, List.set_cons_zero, List.set_cons_succ]
  refine wpAnyH_take (i := 17) (v := ?_) rfl (by kernel_rfl) (by kernel_rfl) (by kernel_rfl) (fun _ _ _ h => h) (Or.inl ⟨by rfl, ?_⟩) (by assumption) ?_
  rotate_left; focus (intro w hSw; (try dsimp only at hSw); go_simp; try (with_reducible rfl); done)
  try simp only [List.getElem_toArray, List.getElem_cons_zero, List.getElem_cons_succ, Act.put, List.setIfInBounds_toArray, List.set_cons_zero, List.set_cons_succ]
  refine wpAnyH_take (i := 18) (v := ?_) rfl (by kernel_rfl) (by kernel_rfl) (by kernel_rfl) (fun _ _ _ h => h) (Or.inl ⟨by rfl, ?_⟩) (by assumption) ?_
  rotate_left; focus (intro w hSw; (try dsimp only at hSw); go_simp; try (with_reducible rfl); done)
  try simp only [List.getElem_toArray, List.getElem_cons_zero, List.getElem_cons_succ, Act.put, List.setIfInBounds_toArray, List.set_cons_zero, List.set_cons_succ]
  refine wpAnyH_take (i := 19) (v := ?_) rfl (by kernel_rfl) (by kernel_rfl) (by kernel_rfl) (fun _ _ _ h => h) (Or.inl ⟨by rfl, ?_⟩) (by assumption) ?_
  rotate_left; focus (intro w hSw; (try dsimp only at hSw); go_simp; try (with_reducible rfl); done)
  try simp only [List.getElem_toArray, List.getElem_cons_zero, List.getElem_cons_succ, Act.put, List.setIfInBounds_toArray, List.set_cons_zero, List.set_cons_succ]
  refine wpAnyH_take (i := 20) (v := ?_) rfl (by kernel_rfl) (by kernel_rfl) (by kernel_rfl) (fun _ _ _ h => h) (Or.inl ⟨by rfl, ?_⟩) (by assumption) ?_
  rotate_left; focus (intro w hSw; (try dsimp only at hSw); go_simp; try (with_reducible rfl); done)
  try simp only [List.getElem_toArray, List.getElem_cons_zero, List.getElem_cons_succ, Act.put, List.setIfInBounds_toArray, List.set_cons_zero, List.set_cons_succ]
  refine wpAnyH_take (i := 21) (v := ?_) rfl (by kernel_rfl) (by kernel_rfl) (by kernel_rfl) (fun _ _ _ h => h) (Or.inl ⟨by rfl, ?_⟩) (by assumption) ?_
  rotate_left; focus (intro w hSw; (try dsimp only at hSw); go_simp; try (with_reducible rfl); done)
  try simp only [List.getElem_toArray, List.getElem_cons_zero, List.getElem_cons_succ, Act.put, List.setIfInBounds_toArray, List.set_cons_zero, List.set_cons_succ]
  refine wpAnyH_take (i := 22) (v := ?_) rfl (by kernel_rfl) (by kernel_rfl) (by kernel_rfl) (fun _ _ _ h => h) (Or.inl ⟨by rfl, ?_⟩) (by assumption) ?_
  rotate_left; focus (intro w hSw; (try dsimp only at hSw); go_simp; try (with_reducible rfl); done)
  try simp only [List.getElem_toArray, List.getElem_cons_zero, List.getElem_cons_succ, Act.put, List.setIfInBounds_toArray, List.set_cons_zero, List.set_cons_succ]
  refine wpAnyH_ready (rs := [23]) (by kernel_rfl) (by simp) ?_
  refine AllReadyH.cons rfl (fun K hK => ?_) AllReadyH.nil
  (go_simp; have HST2 := Lib.hid (Ws.set4 HSZ.out HST1.out (.slice av2 nv2 cv2) seen2 over2 done2); simp only [Nat.reduceAdd] at HST2; have x259 := HST2.out.celAt (Ws.four_old (A := A) (Z := U) (v := (.slice av2 nv2 cv2)) (seen := seen2) (over := over2) (done := done2) HA.out.1); have x260 := HST2.out.celAt (Ws.four_old (A := A) (Z := U) (v := (.slice av2 nv2 cv2)) (seen := seen2) (over := over2) (done := done2) HA.out.2.1); have x261 := HST2.out.celAt (Ws.four_old (A := A) (Z := U) (v := (.slice av2 nv2 cv2)) (seen := seen2) (over := over2) (done := done2) HA.out.2.2.1); have x263 := HST2.out.celAt (Ws.four_old (A := A) (Z := U) (v := (.slice av2 nv2 cv2)) (seen := seen2) (over := over2) (done := done2) HA.out.2.2.2.1); skip)
  refine hK.out _ _ ?_ (fun hHeld => ?_)
  · (try dsimp only); (first | exact ⟨y259, y260, y261, y263⟩ | exact ⟨z259, z260, z261, z263⟩ | exact ⟨x259, x260, x261, x263⟩)
  clear hK K
  try simp only [List.getElem_toArray, List.getElem_cons_zero, List.getElem_cons_succ, Act.put, List.setIfInBounds_toArray, List.set_cons_zero, List.set_cons_succ]
  refine wpAnyH_take (i := 24) (v := ?_) rfl (by kernel_rfl) (by kernel_rfl) (by kernel_rfl) (fun _ _ _ h => h) (Or.inl ⟨by rfl, ?_⟩) (by assumption) ?_
  rotate_left; focus (intro w hSw; (try dsimp only at hSw); go_simp; try (with_reducible rfl); done)
  try simp only [List.getElem_toArray, List.getElem_cons_zero, List.getElem_cons_succ, Act.put, List.setIfInBounds_toArray, List.set_cons_zero, List.set_cons_succ]
  refine wpAnyH_take (i := 25) (v := ?_) rfl (by kernel_rfl) (by kernel_rfl) (by kernel_rfl) (fun _ _ _ h => h) (Or.inl ⟨by rfl, ?_⟩) (by assumption) ?_
  rotate_left; focus (intro w hSw; (try dsimp only at hSw); go_simp; try (with_reducible rfl); done)
  try simp only [List.getElem_toArray, List.getElem_cons_zero, List.getElem_cons_succ, Act.put, List.setIfInBounds_toArray, List.set_cons_zero, List.set_cons_succ]
  refine wpAnyH_done (by kernel_rfl) ?_ _
  go_wp2
  go_ret2
  exact ⟨ve, _, rfl, (fun h0 => by obtain ⟨h1, h2⟩ := HZ.out h0; rw [h1, h2 (by trivial)]; simp only [Ws.InC, List.reverse_reverse]; exact ⟨_, rfl⟩), (HST2.out.pair)⟩

set_option maxRecDepth 100000 in
set_option maxHeartbeats 4000000 in
theorem wsRefCEnd (wb : World) (A U : Array Value) (m : Mk.Md) (v0 : Value) (Pc : Array Value) (vn vt vp vr va vg : Value) (hm : MadeAt (fun b => b < wb.heap.size) wb A m v0 Pc vn vt vp vr va vg) (hmode : m.2.2.2.1 = 1) (he : Rw.all m.2.2.1.1 m.2.2.1.2.1 m.2.2.1.2.2 m.2.2.2.2.1 = 0) (tt : Nat) (htt : (tt : Int) = m.2.2.1.1) (g : Nat) (hU : U.size = 4) :
    Ws.EndBy (Ws.climber m.2.2.1.2.2 m.2.2.2.2.1 tt) (Ws.okC m.2.2.1.1 m.2.2.1.2.1 m.2.2.1.2.2.length) (Ws.InC g 240 A U) wb (fun w Q => Calls Try.prog 84 #[.pointer (some ⟨g, 0, none⟩), .int .i64 (tt : Int)] w Q) := by
  intro w0 w μ j s X hbw hw0 hin hok hj hst
  obtain ⟨v, rfl⟩ := hin
  replace hst := hst.unpair
  obtain ⟨a0, a259, a260, a261, a262, a263, a264, a265⟩ := hm.arr
  have hz := Gr.err_zero (Cl.rw_zero he).1
  have hcc : (tt : Int) ≤ m.2.2.1.1 := by omega
  have HC : Hid (∀ W, St w0 W (aCel g 240 (Ws.four A U v s.2 0 false) :: aOwn 238 4 v (s.1.reverse.map todoV) :: μ) → Below wb.heap.size wb W → Calls Try.prog 130 #[.agg #[.int .i64 m.2.2.1.1, .int .i64 m.2.2.1.2.1, vp], vr, .agg #[v, .int .i64 s.2, .int .i64 0, .bool false], .int .i64 (tt : Int)] W (Cl.Ret (Cl.fin true (Cl.ending m.2.2.1.2.2 m.2.2.2.2.1 tt s.1) s.2) W)) := Lib.hid (fun W hW hbW => by
    have h := clRef_any m.2.2.1.1 m.2.2.1.2.1 s.2 0 false vp vr v m.2.2.1.2.2 m.2.2.2.2.1 s.1.reverse tt W (fun b => b < W.heap.size) (fun b h => h) (Enc.mono _ hm.prods (fun b hb => Nat.lt_of_lt_of_le hb hbW.size) (fun b hb => hbW.block b hb)) (Enc.mono _ hm.rows (fun b hb => Nat.lt_of_lt_of_le hb hbW.size) (fun b hb => hbW.block b hb)) (Ws.encC hz.2.1 hz.2.2.2.1 hz.2.2.2.2.1 hok hW 1 rfl) he hcc (by have := hok.1; omega) (by rw [List.length_reverse]; exact hok.2.1) (fun x hx => hok.2.2 x (List.mem_reverse.1 hx))
    rw [List.reverse_reverse] at h
    rw [decide_eq_true htt, Cl.ending_ref he htt _ hok.2.1 hok.2.2] at h
    exact h)
  have HZ := Lib.hid (Ws.finC_zero (last := true) (x := Cl.ending m.2.2.1.2.2 m.2.2.2.2.1 tt s.1) (seen := s.2))
  have hsz := hm.size
  have HSZ := Lib.hid hsz
  have y259 := hst.celAt (Ws.four_old (A := A) (Z := U) (v := v) (seen := s.2) (over := 0) (done := false) a259)
  have y260 := hst.celAt (Ws.four_old (A := A) (Z := U) (v := v) (seen := s.2) (over := 0) (done := false) a260)
  have y261 := hst.celAt (Ws.four_old (A := A) (Z := U) (v := v) (seen := s.2) (over := 0) (done := false) a261)
  have y262 := hst.celAt (Ws.four_old (A := A) (Z := U) (v := v) (seen := s.2) (over := 0) (done := false) a262)
  have y263 := hst.celAt (Ws.four_old (A := A) (Z := U) (v := v) (seen := s.2) (over := 0) (done := false) a263)
  rw [hmode] at y262
  obtain ⟨b0, b1, b2, b3⟩ := Ws.four_new (A := A) (Z := U) (v := v) (seen := s.2) (over := 0) (done := false) hsz
  have yc0 := hst.celAt b0; have yc1 := hst.celAt b1; have yc2 := hst.celAt b2; have yc3 := hst.celAt b3
  simp only [Nat.reduceAdd] at yc0 yc1 yc2 yc3
  have HST := Lib.hid hst
  have HA := Lib.hid (And.intro a259 (And.intro a260 (And.intro a261 (And.intro a263 (And.intro a264 a265)))))
  have HBW := Lib.hid hbw
  simp only [Ws.climber]
  generalize (Cl.fin true (Cl.ending m.2.2.1.2.2 m.2.2.2.2.1 tt s.1) s.2) = r at *
  obtain ⟨e, st2, seen2, over2, done2, out⟩ := r
  simp only at HC HZ ⊢
  generalize m.2.2.1.1 = t at *
  generalize m.2.2.1.2.1 = n at *
  generalize hseen : s.2 = seen at *
  generalize hst1 : s.1.reverse.map todoV = s1 at *
  clear hst hm he hok hz hcc hsz a0 a259 a260 a261 a262 a263 a264 a265 b0 b1 b2 b3 hbw hw0 htt hj hseen hst1 hmode hU  
  go_enter Try.func84, Try.ntmps84
  go_wp2_with (fail)
  refine wp_region_held_drew (S := (fun w' => w'.cell? ⟨g, 259, none⟩ = some (.int .i64 t) ∧ w'.cell? ⟨g, 260, none⟩ = some (.int .i64 n) ∧ w'.cell? ⟨g, 261, none⟩ = some vp ∧ w'.cell? ⟨g, 263, none⟩ = some vr)) (by kernel_rfl) ?_ (fun hHeld => ?_)
  · (try dsimp only); (first | exact ⟨y259, y260, y261, y263⟩ | exact ⟨z259, z260, z261, z263⟩ | exact ⟨x259, x260, x261, x263⟩)

  refine wpAnyH_take (i := 0) (v := ?_) rfl (by kernel_rfl) (by kernel_rfl) (by kernel_rfl) (fun _ _ _ h => h) (Or.inl ⟨by rfl, ?_⟩) (by assumption) ?_
  rotate_left; focus (intro w hSw; (try dsimp only at hSw); go_simp; try (with_reducible rfl); done)
  try simp only [List.getElem_toArray, List.getElem_cons_zero, List.getElem_cons_succ, Act.put, List.setIfInBounds_toArray, List.set_cons_zero, List.set_cons_succ]
  refine wpAnyH_take (i := 1) (v := ?_) rfl (by kernel_rfl) (by kernel_rfl) (by kernel_rfl) (fun _ _ _ h => h) (Or.inl ⟨by rfl, ?_⟩) (by assumption) ?_
  rotate_left; focus (intro w hSw; (try dsimp only at hSw); go_simp; try (with_reducible rfl); done)
  try simp only [List.getElem_toArray, List.getElem_cons_zero, List.getElem_cons_succ, Act.put, List.setIfInBounds_toArray, List.set_cons_zero, List.set_cons_succ]
  refine wpAnyH_take (i := 2) (v := ?_) rfl (by kernel_rfl) (by kernel_rfl) (by kernel_rfl) (fun _ _ _ h => h) (Or.inl ⟨by rfl, ?_⟩) (by assumption) ?_
  rotate_left; focus (intro w hSw; (try dsimp only at hSw); go_simp; try (with_reducible rfl); done)
  try simp only [List.getElem_toArray, List.getElem_cons_zero, List.getElem_cons_succ, Act.put, List.setIfInBounds_toArray, List.set_cons_zero, List.set_cons_succ]
  refine wpAnyH_take (i := 3) (v := ?_) rfl (by kernel_rfl) (by kernel_rfl) (by kernel_rfl) (fun _ _ _ h => h) (Or.inl ⟨by rfl, ?_⟩) (by assumption) ?_
  rotate_left; focus (intro w hSw; (try dsimp only at hSw); go_simp; try (with_reducible rfl); done)
  try simp only [List.getElem_toArray, List.getElem_cons_zero, List.getElem_cons_succ, Act.put, List.setIfInBounds_toArray, List.set_cons_zero, List.set_cons_succ]
  refine wpAnyH_take (i := 4) (v := ?_) rfl (by kernel_rfl) (by kernel_rfl) (by kernel_rfl) (fun _ _ _ h => h) (Or.inl ⟨by rfl, ?_⟩) (by assumption) ?_
  rotate_left; focus (intro w hSw; (try dsimp only at hSw); go_simp; try (with_reducible rfl); done)
  try simp only [List.getElem_toArray, List.getElem_cons_zero, List.getElem_cons_succ, Act.put, List.setIfInBounds_toArray, List.set_cons_zero, List.set_cons_succ]
  refine wpAnyH_take (i := 5) (v := ?_) rfl (by kernel_rfl) (by kernel_rfl) (by kernel_rfl) (fun _ _ _ h => h) (Or.inl ⟨by rfl, ?_⟩) (by assumption) ?_
  rotate_left; focus (intro w hSw; (try dsimp only at hSw); go_simp; try (with_reducible rfl); done)
  try simp only [List.getElem_toArray, List.getElem_cons_zero, List.getElem_cons_succ, Act.put, List.setIfInBounds_toArray, List.set_cons_zero, List.set_cons_succ]
  refine wpAnyH_take (i := 6) (v := ?_) rfl (by kernel_rfl) (by kernel_rfl) (by kernel_rfl) (fun _ _ _ h => h) (Or.inl ⟨by rfl, ?_⟩) (by assumption) ?_
  rotate_left; focus (intro w hSw; (try dsimp only at hSw); go_simp; try (with_reducible rfl); done)
  try simp only [List.getElem_toArray, List.getElem_cons_zero, List.getElem_cons_succ, Act.put, List.setIfInBounds_toArray, List.set_cons_zero, List.set_cons_succ]
  refine wpAnyH_take (i := 7) (v := ?_) rfl (by kernel_rfl) (by kernel_rfl) (by kernel_rfl) (fun _ _ _ h => h) (Or.inl ⟨by rfl, ?_⟩) (by assumption) ?_
  rotate_left; focus (intro w hSw; (try dsimp only at hSw); go_simp; try (with_reducible rfl); done)
  try simp only [List.getElem_toArray, List.getElem_cons_zero, List.getElem_cons_succ, Act.put, List.setIfInBounds_toArray, List.set_cons_zero, List.set_cons_succ]
  refine wpAnyH_take (i := 8) (v := ?_) rfl (by kernel_rfl) (by kernel_rfl) (by kernel_rfl) (fun _ _ _ h => h) (Or.inl ⟨by rfl, ?_⟩) (by assumption) ?_
  rotate_left; focus (intro w hSw; (try dsimp only at hSw); go_simp; try (with_reducible rfl); done)
  try simp only [List.getElem_toArray, List.getElem_cons_zero, List.getElem_cons_succ, Act.put, List.setIfInBounds_toArray, List.set_cons_zero, List.set_cons_succ]
  refine wpAnyH_take (i := 9) (v := ?_) rfl (by kernel_rfl) (by kernel_rfl) (by kernel_rfl) (fun _ _ _ h => h) (Or.inl ⟨by rfl, ?_⟩) (by assumption) ?_
  rotate_left; focus (intro w hSw; (try dsimp only at hSw); go_simp; try (with_reducible rfl); done)
  try simp only [List.getElem_toArray, List.getElem_cons_zero, List.getElem_cons_succ, Act.put, List.setIfInBounds_toArray, List.set_cons_zero, List.set_cons_succ]
  refine wpAnyH_take (i := 10) (v := ?_) rfl (by kernel_rfl) (by kernel_rfl) (by kernel_rfl) (fun _ _ _ h => h) (Or.inl ⟨by rfl, ?_⟩) (by assumption) ?_
  rotate_left; focus (intro w hSw; (try dsimp only at hSw); go_simp; try (with_reducible rfl); done)
  try simp only [List.getElem_toArray, List.getElem_cons_zero, List.getElem_cons_succ, Act.put, List.setIfInBounds_toArray, List.set_cons_zero, List.set_cons_succ]
  refine wpAnyH_take (i := 11) (v := ?_) rfl (by kernel_rfl) (by kernel_rfl) (by kernel_rfl) (fun _ _ _ h => h) (Or.inl ⟨by rfl, ?_⟩) (by assumption) ?_
  rotate_left; focus (intro w hSw; (try dsimp only at hSw); go_simp; try (with_reducible rfl); done)
  try simp only [List.getElem_toArray, List.getElem_cons_zero, List.getElem_cons_succ, Act.put, List.setIfInBounds_toArray, List.set_cons_zero, List.set_cons_succ]
  refine wpAnyH_take (i := 12) (v := ?_) rfl (by kernel_rfl) (by kernel_rfl) (by kernel_rfl) (fun _ _ _ h => h) (Or.inl ⟨by rfl, ?_⟩) (by assumption) ?_
  rotate_left; focus (intro w hSw; (try dsimp only at hSw); go_simp; try (with_reducible rfl); done)
  try simp only [List.getElem_toArray, List.getElem_cons_zero, List.getElem_cons_succ, Act.put, List.setIfInBounds_toArray, List.set_cons_zero, List.set_cons_succ]
  refine wpAnyH_take (i := 13) (v := ?_) rfl (by kernel_rfl) (by kernel_rfl) (by kernel_rfl) (fun _ _ _ h => h) (Or.inl ⟨by rfl, ?_⟩) (by assumption) ?_
  rotate_left; focus (intro w hSw; (try dsimp only at hSw); go_simp; try (with_reducible rfl); done)
  try simp only [List.getElem_toArray, List.getElem_cons_zero, List.getElem_cons_succ, Act.put, List.setIfInBounds_toArray, List.set_cons_zero, List.set_cons_succ]
  refine wpAnyH_take (i := 15) (v := ?_) rfl (by kernel_rfl) (by kernel_rfl) (by kernel_rfl) (fun _ _ _ h => h) (Or.inl ⟨by rfl, ?_⟩) (by assumption) ?_
  rotate_left; focus (intro w hSw; (try dsimp only at hSw); go_simp; try (with_reducible rfl); done)
  try simp only [List.getElem_toArray, List.getElem_cons_zero, List.getElem_cons_succ, Act.put, List.setIfInBounds_toArray, List.set_cons_zero, List.set_cons_succ]
  refine wpAnyH_ready (rs := [14]) (by kernel_rfl) (by simp) ?_
  refine AllReadyH.cons rfl (fun K hK => ?_) AllReadyH.nil
  go_simp
  refine hK.out _ _ ?_ (fun hHeld => ?_)
  · (try dsimp only); (first | exact ⟨y259, y260, y261, y263⟩ | exact ⟨z259, z260, z261, z263⟩ | exact ⟨x259, x260, x261, x263⟩)
  clear hK K
  try simp only [List.getElem_toArray, List.getElem_cons_zero, List.getElem_cons_succ, Act.put, List.setIfInBounds_toArray, List.set_cons_zero, List.set_cons_succ]
  refine wpAnyH_ready (rs := [16]) (by kernel_rfl) (by simp) ?_
  refine AllReadyH.cons rfl (fun K hK => ?_) AllReadyH.nil
  go_simp
  (go_at_call 130; refine (HC.out _ HST.out.drew HBW.out.drew).mono ?_; rintro e1 w1 ⟨vs2, ve, rfl, hr⟩; simp only at hr; obtain ⟨av2, nv2, cv2, rfl⟩ := Ws.shows (hr.ownAt 0 rfl); have HST1 := Lib.hid (show St w0 w1 (aCel g 240 (Ws.four A U v seen 0 false) :: aOwn 238 4 (.slice av2 nv2 cv2) (st2.map todoV) :: aOwn 76 2 ve (out.map pairV) :: μ) from (HST.out.drew.joined hr).pick (ρ := aCel g 240 (Ws.four A U v seen 0 false) :: aOwn 238 4 (.slice av2 nv2 cv2) (st2.map todoV) :: aOwn 76 2 ve (out.map pairV) :: μ) [2, 0, 1] 4 rfl rfl); have z259 := HST1.out.celAt (Ws.four_old (A := A) (Z := U) (v := v) (seen := seen) (over := 0) (done := false) HA.out.1); have z260 := HST1.out.celAt (Ws.four_old (A := A) (Z := U) (v := v) (seen := seen) (over := 0) (done := false) HA.out.2.1); have z261 := HST1.out.celAt (Ws.four_old (A := A) (Z := U) (v := v) (seen := seen) (over := 0) (done := false) HA.out.2.2.1); have z263 := HST1.out.celAt (Ws.four_old (A := A) (Z := U) (v := v) (seen := seen) (over := 0) (done := false) HA.out.2.2.2.1); have f0 := HST1.out.celFree 266; have g0 := HST1.out.celAt (Ws.four_new (A := A) (Z := U) (v := v) (seen := seen) (over := 0) (done := false) HSZ.out).1; have f1 := HST1.out.celFree 267; have g1 := HST1.out.celAt (Ws.four_new (A := A) (Z := U) (v := v) (seen := seen) (over := 0) (done := false) HSZ.out).2.1; have f2 := HST1.out.celFree 268; have g2 := HST1.out.celAt (Ws.four_new (A := A) (Z := U) (v := v) (seen := seen) (over := 0) (done := false) HSZ.out).2.2.1; have f3 := HST1.out.celFree 269; have g3 := HST1.out.celAt (Ws.four_new (A := A) (Z := U) (v := v) (seen := seen) (over := 0) (done := false) HSZ.out).2.2.2; simp only [Nat.reduceAdd] at g0 g1 g2 g3; clear hr)
  refine hK.out _ _ ?_ (fun hHeld => ?_)
  · (try dsimp only); (first | exact ⟨y259, y260, y261, y263⟩ | exact ⟨z259, z260, z261, z263⟩ | exact ⟨x259, x260, x261, x263⟩)
  clear hK K
  try simp only [List.getElem_toArray, List.getElem_cons_zero, List.getElem_cons_succ, Act.put, List.setIfInBounds_toArray, List.set_cons_zero, List.set_cons_succ]
  refine wpAnyH_take (i := 17) (v := ?_) rfl (by kernel_rfl) (by kernel_rfl) (by kernel_rfl) (fun _ _ _ h => h) (Or.inl ⟨by rfl, ?_⟩) (by assumption) ?_
  rotate_left; focus (intro w hSw; (try dsimp only at hSw); go_simp; try (with_reducible rfl); done)
  try simp only [List.getElem_toArray, List.getElem_cons_zero, List.getElem_cons_succ, Act.put, List.setIfInBounds_toArray, List.set_cons_zero, List.set_cons_succ]
  refine wpAnyH_take (i := 18) (v := ?_) rfl (by kernel_rfl) (by kernel_rfl) (by kernel_rfl) (fun _ _ _ h => h) (Or.inl ⟨by rfl, ?_⟩) (by assumption) ?_
  rotate_left; focus (intro w hSw; (try dsimp only at hSw); go_simp; try (with_reducible rfl); done)
  try simp only [List.getElem_toArray, List.getElem_cons_zero, List.getElem_cons_succ, Act.put, List.setIfInBounds_toArray, List.set_cons_zero, List.set_cons_succ]
  refine wpAnyH_take (i := 19) (v := ?_) rfl (by kernel_rfl) (by kernel_rfl) (by kernel_rfl) (fun _ _ _ h => h) (Or.inl ⟨by rfl, ?_⟩) (by assumption) ?_
  rotate_left; focus (intro w hSw; (try dsimp only at hSw); go_simp; try (with_reducible rfl); done)
  try simp only [List.getElem_toArray, List.getElem_cons_zero, List.getElem_cons_succ, Act.put, List.setIfInBounds_toArray, List.set_cons_zero, List.set_cons_succ]
  refine wpAnyH_take (i := 20) (v := ?_) rfl (by kernel_rfl) (by kernel_rfl) (by kernel_rfl) (fun _ _ _ h => h) (Or.inl ⟨by rfl, ?_⟩) (by assumption) ?_
  rotate_left; focus (intro w hSw; (try dsimp only at hSw); go_simp; try (with_reducible rfl); done)
  try simp only [List.getElem_toArray, List.getElem_cons_zero, List.getElem_cons_succ, Act.put, List.setIfInBounds_toArray, List.set_cons_zero, List.set_cons_succ]
  refine wpAnyH_take (i := 21) (v := ?_) rfl (by kernel_rfl) (by kernel_rfl) (by kernel_rfl) (fun _ _ _ h => h) (Or.inl ⟨by rfl, ?_⟩) (by assumption) ?_
  rotate_left; focus (intro w hSw; (try dsimp only at hSw); go_simp; try (with_reducible rfl); done)
  try simp only [List.getElem_toArray, List.getElem_cons_zero, List.getElem_cons_succ, Act.put, List.setIfInBounds_toArray, List.set_cons_zero, List.set_cons_succ]
  refine wpAnyH_take (i := 22) (v := ?_) rfl (by kernel_rfl) (by kernel_rfl) (by kernel_rfl) (fun _ _ _ h => h) (Or.inl ⟨by rfl, ?_⟩) (by assumption) ?_
  rotate_left; focus (intro w hSw; (try dsimp only at hSw); go_simp; try (with_reducible rfl); done)
  try simp only [List.getElem_toArray, List.getElem_cons_zero, List.getElem_cons_succ, Act.put, List.setIfInBounds_toArray, List.set_cons_zero, List.set_cons_succ]
  refine wpAnyH_ready (rs := [23]) (by kernel_rfl) (by simp) ?_
  refine AllReadyH.cons rfl (fun K hK => ?_) AllReadyH.nil
  (go_simp; have HST2 := Lib.hid (Ws.set4 HSZ.out HST1.out (.slice av2 nv2 cv2) seen2 over2 done2); simp only [Nat.reduceAdd] at HST2; have x259 := HST2.out.celAt (Ws.four_old (A := A) (Z := U) (v := (.slice av2 nv2 cv2)) (seen := seen2) (over := over2) (done := done2) HA.out.1); have x260 := HST2.out.celAt (Ws.four_old (A := A) (Z := U) (v := (.slice av2 nv2 cv2)) (seen := seen2) (over := over2) (done := done2) HA.out.2.1); have x261 := HST2.out.celAt (Ws.four_old (A := A) (Z := U) (v := (.slice av2 nv2 cv2)) (seen := seen2) (over := over2) (done := done2) HA.out.2.2.1); have x263 := HST2.out.celAt (Ws.four_old (A := A) (Z := U) (v := (.slice av2 nv2 cv2)) (seen := seen2) (over := over2) (done := done2) HA.out.2.2.2.1); skip)
  refine hK.out _ _ ?_ (fun hHeld => ?_)
  · (try dsimp only); (first | exact ⟨y259, y260, y261, y263⟩ | exact ⟨z259, z260, z261, z263⟩ | exact ⟨x259, x260, x261, x263⟩)
  clear hK K
  try simp only [List.getElem_toArray, List.getElem_cons_zero, List.getElem_cons_succ, Act.put, List.setIfInBounds_toArray, List.set_cons_zero, List.set_cons_succ]
  refine wpAnyH_take (i := 24) (v := ?_) rfl (by kernel_rfl) (by kernel_rfl) (by kernel_rfl) (fun _ _ _ h => h) (Or.inl ⟨by rfl, ?_⟩) (by assumption) ?_
  rotate_left; focus (intro w hSw; (try dsimp only at hSw); go_simp; try (with_reducible rfl); done)
  try simp only [List.getElem_toArray, List.getElem_cons_zero, List.getElem_cons_succ, Act.put, List.setIfInBounds_toArray, List.set_cons_zero, List.set_cons_succ]
  refine wpAnyH_take (i := 25) (v := ?_) rfl (by kernel_rfl) (by kernel_rfl) (by kernel_rfl) (fun _ _ _ h => h) (Or.inl ⟨by rfl, ?_⟩) (by assumption) ?_
  rotate_left; focus (intro w hSw; (try dsimp only at hSw); go_simp; try (with_reducible rfl); done)
  try simp only [List.getElem_toArray, List.getElem_cons_zero, List.getElem_cons_succ, Act.put, List.setIfInBounds_toArray, List.set_cons_zero, List.set_cons_succ]
  refine wpAnyH_done (by kernel_rfl) ?_ _
  go_wp2
  go_ret2
  exact ⟨ve, _, rfl, (HST2.out.pair)⟩

set_option maxRecDepth 100000 in
set_option maxHeartbeats 4000000 in
theorem wsRefSPush (wb : World) (A U : Array Value) (m : Mk.Md) (v0 : Value) (Pc : Array Value) (vn vt vp vr va vg : Value) (hm : MadeAt (fun b => b < wb.heap.size) wb A m v0 Pc vn vt vp vr va vg) (hmode : m.2.2.2.1 = 2) (he : Tb.all m.2.2.1.1 m.2.2.1.2.1 m.2.2.1.2.2 m.2.2.2.2.2.1 m.2.2.2.2.2.2 = 0) (tt : Nat) (htt : (tt : Int) = m.2.2.1.1) (g : Nat) (hU : U.size = 4) :
    Ws.PushBy (Ws.stacker m.2.2.1.2.2 m.2.2.2.2.2.1 m.2.2.2.2.2.2 tt) (Ws.okS m.2.2.2.2.2.1.length) (Ws.InS g 240 (A ++ U) #[]) tt wb (fun c w Q => Calls Try.prog 84 #[.pointer (some ⟨g, 0, none⟩), .int .i64 (c : Int)] w Q) := by
  intro w0 w μ j s X c hbw hw0 hin hok hj hc hst
  obtain ⟨v, rfl⟩ := hin
  replace hst := hst.unpair
  obtain ⟨a0, a259, a260, a261, a262, a263, a264, a265⟩ := hm.arr
  replace a259 := pre_old (C := U) a259
  replace a260 := pre_old (C := U) a260
  replace a261 := pre_old (C := U) a261
  replace a262 := pre_old (C := U) a262
  replace a264 := pre_old (C := U) a264
  replace a265 := pre_old (C := U) a265
  have hz := Gr.err_zero (Bd.tb_zero he).1
  have hcc : (c : Int) ≤ m.2.2.1.1 := by omega
  have hm2 := (Bd.tb_zero he).2.1
  have HC : Hid (∀ W, St w0 W (aCel g 240 (Ws.four (A ++ U) #[] v s.2 0 false) :: aOwn 3 1 v (s.1.map (Value.int .i64)) :: μ) → Below wb.heap.size wb W → Calls Try.prog 131 #[.agg #[.int .i64 m.2.2.1.1, .int .i64 m.2.2.1.2.1, vp], .agg #[va, vg], .agg #[v, .int .i64 s.2, .int .i64 0, .bool false], .int .i64 (c : Int)] W (Bd.Ret (Bd.fin false (Bd.go m.2.2.1.2.2 m.2.2.2.2.2.1 m.2.2.2.2.2.2 s.2 c 2000 s.1 []) s.2) W)) := Lib.hid (fun W hW hbW => by
    have h := bdRef_any m.2.2.1.1 m.2.2.1.2.1 s.2 0 false vp va vg v m.2.2.1.2.2 m.2.2.2.2.2.1 m.2.2.2.2.2.2 s.1 c W (fun b => b < W.heap.size) (fun b h => h) (Enc.mono _ hm.prods (fun b hb => Nat.lt_of_lt_of_le hb hbW.size) (fun b hb => hbW.block b hb)) (Enc.mono _ hm.acts (fun b hb => Nat.lt_of_lt_of_le hb hbW.size) (fun b hb => hbW.block b hb)) (Enc.mono _ hm.gts (fun b hb => Nat.lt_of_lt_of_le hb hbW.size) (fun b hb => hbW.block b hb)) (Ws.encS (by omega) hok hW 1 rfl) he hcc (by have := hok.1; omega) hok.2.1 hok.2.2.1 hok.2.2.2
    rw [decide_eq_false (by omega : ¬ ((c : Nat) : Int) = m.2.2.1.1)] at h
    exact h)
  have HZ := Lib.hid (Ws.finS_zero (last := false) (x := Bd.go m.2.2.1.2.2 m.2.2.2.2.2.1 m.2.2.2.2.2.2 s.2 c 2000 s.1 []) (seen := s.2))
  have hsz : (A ++ U).size = 270 := by rw [Array.size_append, hm.size, hU]
  have HSZ := Lib.hid hsz
  have y259 := hst.celAt (Ws.four_old (A := (A ++ U)) (Z := #[]) (v := v) (seen := s.2) (over := 0) (done := false) a259)
  have y260 := hst.celAt (Ws.four_old (A := (A ++ U)) (Z := #[]) (v := v) (seen := s.2) (over := 0) (done := false) a260)
  have y261 := hst.celAt (Ws.four_old (A := (A ++ U)) (Z := #[]) (v := v) (seen := s.2) (over := 0) (done := false) a261)
  have y262 := hst.celAt (Ws.four_old (A := (A ++ U)) (Z := #[]) (v := v) (seen := s.2) (over := 0) (done := false) a262)
  have y264 := hst.celAt (Ws.four_old (A := (A ++ U)) (Z := #[]) (v := v) (seen := s.2) (over := 0) (done := false) a264)
  have y265 := hst.celAt (Ws.four_old (A := (A ++ U)) (Z := #[]) (v := v) (seen := s.2) (over := 0) (done := false) a265)
  rw [hmode] at y262
  obtain ⟨b0, b1, b2, b3⟩ := Ws.four_new (A := (A ++ U)) (Z := #[]) (v := v) (seen := s.2) (over := 0) (done := false) hsz
  have yc0 := hst.celAt b0; have yc1 := hst.celAt b1; have yc2 := hst.celAt b2; have yc3 := hst.celAt b3
  simp only [Nat.reduceAdd] at yc0 yc1 yc2 yc3
  have HST := Lib.hid hst
  have HA := Lib.hid (And.intro a259 (And.intro a260 (And.intro a261 (And.intro a262 (And.intro a264 a265)))))
  have HBW := Lib.hid hbw
  simp only [Ws.stacker]
  generalize (Bd.fin false (Bd.go m.2.2.1.2.2 m.2.2.2.2.2.1 m.2.2.2.2.2.2 s.2 c 2000 s.1 []) s.2) = r at *
  obtain ⟨e, st2, seen2, over2, done2, out⟩ := r
  simp only at HC HZ ⊢
  generalize m.2.2.1.1 = t at *
  generalize m.2.2.1.2.1 = n at *
  generalize hseen : s.2 = seen at *
  generalize hst1 : s.1.map (Value.int .i64) = s1 at *
  generalize hAU : A ++ U = AU at *
  clear hst hm he hok hz hcc hsz a0 a259 a260 a261 a262 a263 a264 a265 b0 b1 b2 b3 hbw hw0 htt hj hseen hst1 hmode hU hc hm2 hAU
  go_enter Try.func84, Try.ntmps84
  go_wp2_with (fail)
  refine wp_region_held_drew (S := (fun w' => w'.cell? ⟨g, 259, none⟩ = some (.int .i64 t) ∧ w'.cell? ⟨g, 260, none⟩ = some (.int .i64 n) ∧ w'.cell? ⟨g, 261, none⟩ = some vp ∧ w'.cell? ⟨g, 264, none⟩ = some va ∧ w'.cell? ⟨g, 265, none⟩ = some vg)) (by kernel_rfl) ?_ (fun hHeld => ?_)
  · (try dsimp only); (first | exact ⟨y259, y260, y261, y264, y265⟩ | exact ⟨z259, z260, z261, z264, z265⟩ | exact ⟨x259, x260, x261, x264, x265⟩)

  refine wpAnyH_take (i := 0) (v := ?_) rfl (by kernel_rfl) (by kernel_rfl) (by kernel_rfl) (fun _ _ _ h => h) (Or.inl ⟨by rfl, ?_⟩) (by assumption) ?_
  rotate_left; focus (intro w hSw; (try dsimp only at hSw); go_simp; try (with_reducible rfl); done)
  try simp only [List.getElem_toArray, List.getElem_cons_zero, List.getElem_cons_succ, Act.put, List.setIfInBounds_toArray, List.set_cons_zero, List.set_cons_succ]
  refine wpAnyH_take (i := 1) (v := ?_) rfl (by kernel_rfl) (by kernel_rfl) (by kernel_rfl) (fun _ _ _ h => h) (Or.inl ⟨by rfl, ?_⟩) (by assumption) ?_
  rotate_left; focus (intro w hSw; (try dsimp only at hSw); go_simp; try (with_reducible rfl); done)
  try simp only [List.getElem_toArray, List.getElem_cons_zero, List.getElem_cons_succ, Act.put, List.setIfInBounds_toArray, List.set_cons_zero, List.set_cons_succ]
  refine wpAnyH_take (i := 2) (v := ?_) rfl (by kernel_rfl) (by kernel_rfl) (by kernel_rfl) (fun _ _ _ h => h) (Or.inl ⟨by rfl, ?_⟩) (by assumption) ?_
  rotate_left; focus (intro w hSw; (try dsimp only at hSw); go_simp; try (with_reducible rfl); done)
  try simp only [List.getElem_toArray, List.getElem_cons_zero, List.getElem_cons_succ, Act.put, List.setIfInBounds_toArray, List.set_cons_zero, List.set_cons_succ]
  refine wpAnyH_take (i := 3) (v := ?_) rfl (by kernel_rfl) (by kernel_rfl) (by kernel_rfl) (fun _ _ _ h => h) (Or.inl ⟨by rfl, ?_⟩) (by assumption) ?_
  rotate_left; focus (intro w hSw; (try dsimp only at hSw); go_simp; try (with_reducible rfl); done)
  try simp only [List.getElem_toArray, List.getElem_cons_zero, List.getElem_cons_succ, Act.put, List.setIfInBounds_toArray, List.set_cons_zero, List.set_cons_succ]
  refine wpAnyH_take (i := 4) (v := ?_) rfl (by kernel_rfl) (by kernel_rfl) (by kernel_rfl) (fun _ _ _ h => h) (Or.inl ⟨by rfl, ?_⟩) (by assumption) ?_
  rotate_left; focus (intro w hSw; (try dsimp only at hSw); go_simp; try (with_reducible rfl); done)
  try simp only [List.getElem_toArray, List.getElem_cons_zero, List.getElem_cons_succ, Act.put, List.setIfInBounds_toArray, List.set_cons_zero, List.set_cons_succ]
  refine wpAnyH_take (i := 5) (v := ?_) rfl (by kernel_rfl) (by kernel_rfl) (by kernel_rfl) (fun _ _ _ h => h) (Or.inl ⟨by rfl, ?_⟩) (by assumption) ?_
  rotate_left; focus (intro w hSw; (try dsimp only at hSw); go_simp; try (with_reducible rfl); done)
  try simp only [List.getElem_toArray, List.getElem_cons_zero, List.getElem_cons_succ, Act.put, List.setIfInBounds_toArray, List.set_cons_zero, List.set_cons_succ]
  refine wpAnyH_take (i := 6) (v := ?_) rfl (by kernel_rfl) (by kernel_rfl) (by kernel_rfl) (fun _ _ _ h => h) (Or.inl ⟨by rfl, ?_⟩) (by assumption) ?_
  rotate_left; focus (intro w hSw; (try dsimp only at hSw); go_simp; try (with_reducible rfl); done)
  try simp only [List.getElem_toArray, List.getElem_cons_zero, List.getElem_cons_succ, Act.put, List.setIfInBounds_toArray, List.set_cons_zero, List.set_cons_succ]
  refine wpAnyH_take (i := 7) (v := ?_) rfl (by kernel_rfl) (by kernel_rfl) (by kernel_rfl) (fun _ _ _ h => h) (Or.inl ⟨by rfl, ?_⟩) (by assumption) ?_
  rotate_left; focus (intro w hSw; (try dsimp only at hSw); go_simp; try (with_reducible rfl); done)
  try simp only [List.getElem_toArray, List.getElem_cons_zero, List.getElem_cons_succ, Act.put, List.setIfInBounds_toArray, List.set_cons_zero, List.set_cons_succ]
  refine wpAnyH_take (i := 8) (v := ?_) rfl (by kernel_rfl) (by kernel_rfl) (by kernel_rfl) (fun _ _ _ h => h) (Or.inl ⟨by rfl, ?_⟩) (by assumption) ?_
  rotate_left; focus (intro w hSw; (try dsimp only at hSw); go_simp; try (with_reducible rfl); done)
  try simp only [List.getElem_toArray, List.getElem_cons_zero, List.getElem_cons_succ, Act.put, List.setIfInBounds_toArray, List.set_cons_zero, List.set_cons_succ]
  refine wpAnyH_take (i := 9) (v := ?_) rfl (by kernel_rfl) (by kernel_rfl) (by kernel_rfl) (fun _ _ _ h => h) (Or.inl ⟨by rfl, ?_⟩) (by assumption) ?_
  rotate_left; focus (intro w hSw; (try dsimp only at hSw); go_simp; try (with_reducible rfl); done)
  try simp only [List.getElem_toArray, List.getElem_cons_zero, List.getElem_cons_succ, Act.put, List.setIfInBounds_toArray, List.set_cons_zero, List.set_cons_succ]
  refine wpAnyH_take (i := 10) (v := ?_) rfl (by kernel_rfl) (by kernel_rfl) (by kernel_rfl) (fun _ _ _ h => h) (Or.inl ⟨by rfl, ?_⟩) (by assumption) ?_
  rotate_left; focus (intro w hSw; (try dsimp only at hSw); go_simp; try (with_reducible rfl); done)
  try simp only [List.getElem_toArray, List.getElem_cons_zero, List.getElem_cons_succ, Act.put, List.setIfInBounds_toArray, List.set_cons_zero, List.set_cons_succ]
  refine wpAnyH_take (i := 11) (v := ?_) rfl (by kernel_rfl) (by kernel_rfl) (by kernel_rfl) (fun _ _ _ h => h) (Or.inl ⟨by rfl, ?_⟩) (by assumption) ?_
  rotate_left; focus (intro w hSw; (try dsimp only at hSw); go_simp; try (with_reducible rfl); done)
  try simp only [List.getElem_toArray, List.getElem_cons_zero, List.getElem_cons_succ, Act.put, List.setIfInBounds_toArray, List.set_cons_zero, List.set_cons_succ]
  refine wpAnyH_take (i := 12) (v := ?_) rfl (by kernel_rfl) (by kernel_rfl) (by kernel_rfl) (fun _ _ _ h => h) (Or.inl ⟨by rfl, ?_⟩) (by assumption) ?_
  rotate_left; focus (intro w hSw; (try dsimp only at hSw); go_simp; try (with_reducible rfl); done)
  try simp only [List.getElem_toArray, List.getElem_cons_zero, List.getElem_cons_succ, Act.put, List.setIfInBounds_toArray, List.set_cons_zero, List.set_cons_succ]
  refine wpAnyH_take (i := 13) (v := ?_) rfl (by kernel_rfl) (by kernel_rfl) (by kernel_rfl) (fun _ _ _ h => h) (Or.inl ⟨by rfl, ?_⟩) (by assumption) ?_
  rotate_left; focus (intro w hSw; (try dsimp only at hSw); go_simp; try (with_reducible rfl); done)
  try simp only [List.getElem_toArray, List.getElem_cons_zero, List.getElem_cons_succ, Act.put, List.setIfInBounds_toArray, List.set_cons_zero, List.set_cons_succ]
  refine wpAnyH_take (i := 15) (v := ?_) rfl (by kernel_rfl) (by kernel_rfl) (by kernel_rfl) (fun _ _ _ h => h) (Or.inl ⟨by rfl, ?_⟩) (by assumption) ?_
  rotate_left; focus (intro w hSw; (try dsimp only at hSw); go_simp; try (with_reducible rfl); done)
  try simp only [List.getElem_toArray, List.getElem_cons_zero, List.getElem_cons_succ, Act.put, List.setIfInBounds_toArray, List.set_cons_zero, List.set_cons_succ]
  refine wpAnyH_ready (rs := [14]) (by kernel_rfl) (by simp) ?_
  refine AllReadyH.cons rfl (fun K hK => ?_) AllReadyH.nil
  go_simp
  refine hK.out _ _ ?_ (fun hHeld => ?_)
  · (try dsimp only); (first | exact ⟨y259, y260, y261, y264, y265⟩ | exact ⟨z259, z260, z261, z264, z265⟩ | exact ⟨x259, x260, x261, x264, x265⟩)
  clear hK K
  try simp only [List.getElem_toArray, List.getElem_cons_zero, List.getElem_cons_succ, Act.put, List.setIfInBounds_toArray, List.set_cons_zero, List.set_cons_succ]
  refine wpAnyH_ready (rs := [16]) (by kernel_rfl) (by simp) ?_
  refine AllReadyH.cons rfl (fun K hK => ?_) AllReadyH.nil
  go_simp
  (go_at_call 131; refine (HC.out _ HST.out.drew HBW.out.drew).mono ?_; rintro e1 w1 ⟨vs2, ve, rfl, hr⟩; simp only at hr; obtain ⟨av2, nv2, cv2, rfl⟩ := Ws.shows (hr.ownAt 0 rfl); have HST1 := Lib.hid (show St w0 w1 (aCel g 240 (Ws.four AU #[] v seen 0 false) :: aOwn 3 1 (.slice av2 nv2 cv2) (st2.map (Value.int .i64)) :: aOwn 76 2 ve (out.map pairV) :: μ) from (HST.out.drew.joined hr).pick (ρ := aCel g 240 (Ws.four AU #[] v seen 0 false) :: aOwn 3 1 (.slice av2 nv2 cv2) (st2.map (Value.int .i64)) :: aOwn 76 2 ve (out.map pairV) :: μ) [2, 0, 1] 4 rfl rfl); have z259 := HST1.out.celAt (Ws.four_old (A := AU) (Z := #[]) (v := v) (seen := seen) (over := 0) (done := false) HA.out.1); have z260 := HST1.out.celAt (Ws.four_old (A := AU) (Z := #[]) (v := v) (seen := seen) (over := 0) (done := false) HA.out.2.1); have z261 := HST1.out.celAt (Ws.four_old (A := AU) (Z := #[]) (v := v) (seen := seen) (over := 0) (done := false) HA.out.2.2.1); have z264 := HST1.out.celAt (Ws.four_old (A := AU) (Z := #[]) (v := v) (seen := seen) (over := 0) (done := false) HA.out.2.2.2.2.1); have z265 := HST1.out.celAt (Ws.four_old (A := AU) (Z := #[]) (v := v) (seen := seen) (over := 0) (done := false) HA.out.2.2.2.2.2); have f0 := HST1.out.celFree 270; have g0 := HST1.out.celAt (Ws.four_new (A := AU) (Z := #[]) (v := v) (seen := seen) (over := 0) (done := false) HSZ.out).1; have f1 := HST1.out.celFree 271; have g1 := HST1.out.celAt (Ws.four_new (A := AU) (Z := #[]) (v := v) (seen := seen) (over := 0) (done := false) HSZ.out).2.1; have f2 := HST1.out.celFree 272; have g2 := HST1.out.celAt (Ws.four_new (A := AU) (Z := #[]) (v := v) (seen := seen) (over := 0) (done := false) HSZ.out).2.2.1; have f3 := HST1.out.celFree 273; have g3 := HST1.out.celAt (Ws.four_new (A := AU) (Z := #[]) (v := v) (seen := seen) (over := 0) (done := false) HSZ.out).2.2.2; simp only [Nat.reduceAdd] at g0 g1 g2 g3; clear hr)
  refine hK.out _ _ ?_ (fun hHeld => ?_)
  · (try dsimp only); (first | exact ⟨y259, y260, y261, y264, y265⟩ | exact ⟨z259, z260, z261, z264, z265⟩ | exact ⟨x259, x260, x261, x264, x265⟩)
  clear hK K
  try simp only [List.getElem_toArray, List.getElem_cons_zero, List.getElem_cons_succ, Act.put, List.setIfInBounds_toArray, List.set_cons_zero, List.set_cons_succ]
  refine wpAnyH_take (i := 17) (v := ?_) rfl (by kernel_rfl) (by kernel_rfl) (by kernel_rfl) (fun _ _ _ h => h) (Or.inl ⟨by rfl, ?_⟩) (by assumption) ?_
  rotate_left; focus (intro w hSw; (try dsimp only at hSw); go_simp; try (with_reducible rfl); done)
  try simp only [List.getElem_toArray, List.getElem_cons_zero, List.getElem_cons_succ, Act.put, List.setIfInBounds_toArray, List.set_cons_zero, List.set_cons_succ]
  refine wpAnyH_take (i := 18) (v := ?_) rfl (by kernel_rfl) (by kernel_rfl) (by kernel_rfl) (fun _ _ _ h => h) (Or.inl ⟨by rfl, ?_⟩) (by assumption) ?_
  rotate_left; focus (intro w hSw; (try dsimp only at hSw); go_simp; try (with_reducible rfl); done)
  try simp only [List.getElem_toArray, List.getElem_cons_zero, List.getElem_cons_succ, Act.put, List.setIfInBounds_toArray, List.set_cons_zero, List.set_cons_succ]
  refine wpAnyH_take (i := 19) (v := ?_) rfl (by kernel_rfl) (by kernel_rfl) (by kernel_rfl) (fun _ _ _ h => h) (Or.inl ⟨by rfl, ?_⟩) (by assumption) ?_
  rotate_left; focus (intro w hSw; (try dsimp only at hSw); go_simp; try (with_reducible rfl); done)
  try simp only [List.getElem_toArray, List.getElem_cons_zero, List.getElem_cons_succ, Act.put, List.setIfInBounds_toArray, List.set_cons_zero, List.set_cons_succ]
  refine wpAnyH_take (i := 20) (v := ?_) rfl (by kernel_rfl) (by kernel_rfl) (by kernel_rfl) (fun _ _ _ h => h) (Or.inl ⟨by rfl, ?_⟩) (by assumption) ?_
  rotate_left; focus (intro w hSw; (try dsimp only at hSw); go_simp; try (with_reducible rfl); done)
  try simp only [List.getElem_toArray, List.getElem_cons_zero, List.getElem_cons_succ, Act.put, List.setIfInBounds_toArray, List.set_cons_zero, List.set_cons_succ]
  refine wpAnyH_take (i := 21) (v := ?_) rfl (by kernel_rfl) (by kernel_rfl) (by kernel_rfl) (fun _ _ _ h => h) (Or.inl ⟨by rfl, ?_⟩) (by assumption) ?_
  rotate_left; focus (intro w hSw; (try dsimp only at hSw); go_simp; try (with_reducible rfl); done)
  try simp only [List.getElem_toArray, List.getElem_cons_zero, List.getElem_cons_succ, Act.put, List.setIfInBounds_toArray, List.set_cons_zero, List.set_cons_succ]
  refine wpAnyH_take (i := 22) (v := ?_) rfl (by kernel_rfl) (by kernel_rfl) (by kernel_rfl) (fun _ _ _ h => h) (Or.inl ⟨by rfl, ?_⟩) (by assumption) ?_
  rotate_left; focus (intro w hSw; (try dsimp only at hSw); go_simp; try (with_reducible rfl); done)
  try simp only [List.getElem_toArray, List.getElem_cons_zero, List.getElem_cons_succ, Act.put, List.setIfInBounds_toArray, List.set_cons_zero, List.set_cons_succ]
  refine wpAnyH_ready (rs := [23]) (by kernel_rfl) (by simp) ?_
  refine AllReadyH.cons rfl (fun K hK => ?_) AllReadyH.nil
  (go_simp; have HST2 := Lib.hid (Ws.set4 HSZ.out HST1.out (.slice av2 nv2 cv2) seen2 over2 done2); simp only [Nat.reduceAdd] at HST2; have x259 := HST2.out.celAt (Ws.four_old (A := AU) (Z := #[]) (v := (.slice av2 nv2 cv2)) (seen := seen2) (over := over2) (done := done2) HA.out.1); have x260 := HST2.out.celAt (Ws.four_old (A := AU) (Z := #[]) (v := (.slice av2 nv2 cv2)) (seen := seen2) (over := over2) (done := done2) HA.out.2.1); have x261 := HST2.out.celAt (Ws.four_old (A := AU) (Z := #[]) (v := (.slice av2 nv2 cv2)) (seen := seen2) (over := over2) (done := done2) HA.out.2.2.1); have x264 := HST2.out.celAt (Ws.four_old (A := AU) (Z := #[]) (v := (.slice av2 nv2 cv2)) (seen := seen2) (over := over2) (done := done2) HA.out.2.2.2.2.1); have x265 := HST2.out.celAt (Ws.four_old (A := AU) (Z := #[]) (v := (.slice av2 nv2 cv2)) (seen := seen2) (over := over2) (done := done2) HA.out.2.2.2.2.2); skip)
  refine hK.out _ _ ?_ (fun hHeld => ?_)
  · (try dsimp only); (first | exact ⟨y259, y260, y261, y264, y265⟩ | exact ⟨z259, z260, z261, z264, z265⟩ | exact ⟨x259, x260, x261, x264, x265⟩)
  clear hK K
  try simp only [List.getElem_toArray, List.getElem_cons_zero, List.getElem_cons_succ, Act.put, List.setIfInBounds_toArray, List.set_cons_zero, List.set_cons_succ]
  refine wpAnyH_take (i := 24) (v := ?_) rfl (by kernel_rfl) (by kernel_rfl) (by kernel_rfl) (fun _ _ _ h => h) (Or.inl ⟨by rfl, ?_⟩) (by assumption) ?_
  rotate_left; focus (intro w hSw; (try dsimp only at hSw); go_simp; try (with_reducible rfl); done)
  try simp only [List.getElem_toArray, List.getElem_cons_zero, List.getElem_cons_succ, Act.put, List.setIfInBounds_toArray, List.set_cons_zero, List.set_cons_succ]
  refine wpAnyH_take (i := 25) (v := ?_) rfl (by kernel_rfl) (by kernel_rfl) (by kernel_rfl) (fun _ _ _ h => h) (Or.inl ⟨by rfl, ?_⟩) (by assumption) ?_
  rotate_left; focus (intro w hSw; (try dsimp only at hSw); go_simp; try (with_reducible rfl); done)
  try simp only [List.getElem_toArray, List.getElem_cons_zero, List.getElem_cons_succ, Act.put, List.setIfInBounds_toArray, List.set_cons_zero, List.set_cons_succ]
  refine wpAnyH_done (by kernel_rfl) ?_ _
  go_wp2
  go_ret2
  exact ⟨ve, _, rfl, (fun h0 => by obtain ⟨h1, h2⟩ := HZ.out h0; rw [h1, h2 (by trivial)]; exact ⟨_, rfl⟩), (HST2.out.pair)⟩

set_option maxRecDepth 100000 in
set_option maxHeartbeats 4000000 in
theorem wsRefSEnd (wb : World) (A U : Array Value) (m : Mk.Md) (v0 : Value) (Pc : Array Value) (vn vt vp vr va vg : Value) (hm : MadeAt (fun b => b < wb.heap.size) wb A m v0 Pc vn vt vp vr va vg) (hmode : m.2.2.2.1 = 2) (he : Tb.all m.2.2.1.1 m.2.2.1.2.1 m.2.2.1.2.2 m.2.2.2.2.2.1 m.2.2.2.2.2.2 = 0) (tt : Nat) (htt : (tt : Int) = m.2.2.1.1) (g : Nat) (hU : U.size = 4) :
    Ws.EndBy (Ws.stacker m.2.2.1.2.2 m.2.2.2.2.2.1 m.2.2.2.2.2.2 tt) (Ws.okS m.2.2.2.2.2.1.length) (Ws.InS g 240 (A ++ U) #[]) wb (fun w Q => Calls Try.prog 84 #[.pointer (some ⟨g, 0, none⟩), .int .i64 (tt : Int)] w Q) := by
  intro w0 w μ j s X hbw hw0 hin hok hj hst
  obtain ⟨v, rfl⟩ := hin
  replace hst := hst.unpair
  obtain ⟨a0, a259, a260, a261, a262, a263, a264, a265⟩ := hm.arr
  replace a259 := pre_old (C := U) a259
  replace a260 := pre_old (C := U) a260
  replace a261 := pre_old (C := U) a261
  replace a262 := pre_old (C := U) a262
  replace a264 := pre_old (C := U) a264
  replace a265 := pre_old (C := U) a265
  have hz := Gr.err_zero (Bd.tb_zero he).1
  have hcc : (tt : Int) ≤ m.2.2.1.1 := by omega
  have hm2 := (Bd.tb_zero he).2.1
  have HC : Hid (∀ W, St w0 W (aCel g 240 (Ws.four (A ++ U) #[] v s.2 0 false) :: aOwn 3 1 v (s.1.map (Value.int .i64)) :: μ) → Below wb.heap.size wb W → Calls Try.prog 131 #[.agg #[.int .i64 m.2.2.1.1, .int .i64 m.2.2.1.2.1, vp], .agg #[va, vg], .agg #[v, .int .i64 s.2, .int .i64 0, .bool false], .int .i64 (tt : Int)] W (Bd.Ret (Bd.fin true (Bd.go m.2.2.1.2.2 m.2.2.2.2.2.1 m.2.2.2.2.2.2 s.2 tt 2000 s.1 []) s.2) W)) := Lib.hid (fun W hW hbW => by
    have h := bdRef_any m.2.2.1.1 m.2.2.1.2.1 s.2 0 false vp va vg v m.2.2.1.2.2 m.2.2.2.2.2.1 m.2.2.2.2.2.2 s.1 tt W (fun b => b < W.heap.size) (fun b h => h) (Enc.mono _ hm.prods (fun b hb => Nat.lt_of_lt_of_le hb hbW.size) (fun b hb => hbW.block b hb)) (Enc.mono _ hm.acts (fun b hb => Nat.lt_of_lt_of_le hb hbW.size) (fun b hb => hbW.block b hb)) (Enc.mono _ hm.gts (fun b hb => Nat.lt_of_lt_of_le hb hbW.size) (fun b hb => hbW.block b hb)) (Ws.encS (by omega) hok hW 1 rfl) he hcc (by have := hok.1; omega) hok.2.1 hok.2.2.1 hok.2.2.2
    rw [decide_eq_true htt] at h
    exact h)
  have HZ := Lib.hid (Ws.finS_zero (last := true) (x := Bd.go m.2.2.1.2.2 m.2.2.2.2.2.1 m.2.2.2.2.2.2 s.2 tt 2000 s.1 []) (seen := s.2))
  have hsz : (A ++ U).size = 270 := by rw [Array.size_append, hm.size, hU]
  have HSZ := Lib.hid hsz
  have y259 := hst.celAt (Ws.four_old (A := (A ++ U)) (Z := #[]) (v := v) (seen := s.2) (over := 0) (done := false) a259)
  have y260 := hst.celAt (Ws.four_old (A := (A ++ U)) (Z := #[]) (v := v) (seen := s.2) (over := 0) (done := false) a260)
  have y261 := hst.celAt (Ws.four_old (A := (A ++ U)) (Z := #[]) (v := v) (seen := s.2) (over := 0) (done := false) a261)
  have y262 := hst.celAt (Ws.four_old (A := (A ++ U)) (Z := #[]) (v := v) (seen := s.2) (over := 0) (done := false) a262)
  have y264 := hst.celAt (Ws.four_old (A := (A ++ U)) (Z := #[]) (v := v) (seen := s.2) (over := 0) (done := false) a264)
  have y265 := hst.celAt (Ws.four_old (A := (A ++ U)) (Z := #[]) (v := v) (seen := s.2) (over := 0) (done := false) a265)
  rw [hmode] at y262
  obtain ⟨b0, b1, b2, b3⟩ := Ws.four_new (A := (A ++ U)) (Z := #[]) (v := v) (seen := s.2) (over := 0) (done := false) hsz
  have yc0 := hst.celAt b0; have yc1 := hst.celAt b1; have yc2 := hst.celAt b2; have yc3 := hst.celAt b3
  simp only [Nat.reduceAdd] at yc0 yc1 yc2 yc3
  have HST := Lib.hid hst
  have HA := Lib.hid (And.intro a259 (And.intro a260 (And.intro a261 (And.intro a262 (And.intro a264 a265)))))
  have HBW := Lib.hid hbw
  simp only [Ws.stacker]
  generalize (Bd.fin true (Bd.go m.2.2.1.2.2 m.2.2.2.2.2.1 m.2.2.2.2.2.2 s.2 tt 2000 s.1 []) s.2) = r at *
  obtain ⟨e, st2, seen2, over2, done2, out⟩ := r
  simp only at HC HZ ⊢
  generalize m.2.2.1.1 = t at *
  generalize m.2.2.1.2.1 = n at *
  generalize hseen : s.2 = seen at *
  generalize hst1 : s.1.map (Value.int .i64) = s1 at *
  generalize hAU : A ++ U = AU at *
  clear hst hm he hok hz hcc hsz a0 a259 a260 a261 a262 a263 a264 a265 b0 b1 b2 b3 hbw hw0 htt hj hseen hst1 hmode hU  hm2 hAU
  go_enter Try.func84, Try.ntmps84
  go_wp2_with (fail)
  refine wp_region_held_drew (S := (fun w' => w'.cell? ⟨g, 259, none⟩ = some (.int .i64 t) ∧ w'.cell? ⟨g, 260, none⟩ = some (.int .i64 n) ∧ w'.cell? ⟨g, 261, none⟩ = some vp ∧ w'.cell? ⟨g, 264, none⟩ = some va ∧ w'.cell? ⟨g, 265, none⟩ = some vg)) (by kernel_rfl) ?_ (fun hHeld => ?_)
  · (try dsimp only); (first | exact ⟨y259, y260, y261, y264, y265⟩ | exact ⟨z259, z260, z261, z264, z265⟩ | exact ⟨x259, x260, x261, x264, x265⟩)

  refine wpAnyH_take (i := 0) (v := ?_) rfl (by kernel_rfl) (by kernel_rfl) (by kernel_rfl) (fun _ _ _ h => h) (Or.inl ⟨by rfl, ?_⟩) (by assumption) ?_
  rotate_left; focus (intro w hSw; (try dsimp only at hSw); go_simp; try (with_reducible rfl); done)
  try simp only [List.getElem_toArray, List.getElem_cons_zero, List.getElem_cons_succ, Act.put, List.setIfInBounds_toArray, List.set_cons_zero, List.set_cons_succ]
  refine wpAnyH_take (i := 1) (v := ?_) rfl (by kernel_rfl) (by kernel_rfl) (by kernel_rfl) (fun _ _ _ h => h) (Or.inl ⟨by rfl, ?_⟩) (by assumption) ?_
  rotate_left; focus (intro w hSw; (try dsimp only at hSw); go_simp; try (with_reducible rfl); done)
  try simp only [List.getElem_toArray, List.getElem_cons_zero, List.getElem_cons_succ, Act.put, List.setIfInBounds_toArray, List.set_cons_zero, List.set_cons_succ]
  refine wpAnyH_take (i := 2) (v := ?_) rfl (by kernel_rfl) (by kernel_rfl) (by kernel_rfl) (fun _ _ _ h => h) (Or.inl ⟨by rfl, ?_⟩) (by assumption) ?_
  rotate_left; focus (intro w hSw; (try dsimp only at hSw); go_simp; try (with_reducible rfl); done)
  try simp only [List.getElem_toArray, List.getElem_cons_zero, List.getElem_cons_succ, Act.put, List.setIfInBounds_toArray, List.set_cons_zero, List.set_cons_succ]
  refine wpAnyH_take (i := 3) (v := ?_) rfl (by kernel_rfl) (by kernel_rfl) (by kernel_rfl) (fun _ _ _ h => h) (Or.inl ⟨by rfl, ?_⟩) (by assumption) ?_
  rotate_left; focus (intro w hSw; (try dsimp only at hSw); go_simp; try (with_reducible rfl); done)
  try simp only [List.getElem_toArray, List.getElem_cons_zero, List.getElem_cons_succ, Act.put, List.setIfInBounds_toArray, List.set_cons_zero, List.set_cons_succ]
  refine wpAnyH_take (i := 4) (v := ?_) rfl (by kernel_rfl) (by kernel_rfl) (by kernel_rfl) (fun _ _ _ h => h) (Or.inl ⟨by rfl, ?_⟩) (by assumption) ?_
  rotate_left; focus (intro w hSw; (try dsimp only at hSw); go_simp; try (with_reducible rfl); done)
  try simp only [List.getElem_toArray, List.getElem_cons_zero, List.getElem_cons_succ, Act.put, List.setIfInBounds_toArray, List.set_cons_zero, List.set_cons_succ]
  refine wpAnyH_take (i := 5) (v := ?_) rfl (by kernel_rfl) (by kernel_rfl) (by kernel_rfl) (fun _ _ _ h => h) (Or.inl ⟨by rfl, ?_⟩) (by assumption) ?_
  rotate_left; focus (intro w hSw; (try dsimp only at hSw); go_simp; try (with_reducible rfl); done)
  try simp only [List.getElem_toArray, List.getElem_cons_zero, List.getElem_cons_succ, Act.put, List.setIfInBounds_toArray, List.set_cons_zero, List.set_cons_succ]
  refine wpAnyH_take (i := 6) (v := ?_) rfl (by kernel_rfl) (by kernel_rfl) (by kernel_rfl) (fun _ _ _ h => h) (Or.inl ⟨by rfl, ?_⟩) (by assumption) ?_
  rotate_left; focus (intro w hSw; (try dsimp only at hSw); go_simp; try (with_reducible rfl); done)
  try simp only [List.getElem_toArray, List.getElem_cons_zero, List.getElem_cons_succ, Act.put, List.setIfInBounds_toArray, List.set_cons_zero, List.set_cons_succ]
  refine wpAnyH_take (i := 7) (v := ?_) rfl (by kernel_rfl) (by kernel_rfl) (by kernel_rfl) (fun _ _ _ h => h) (Or.inl ⟨by rfl, ?_⟩) (by assumption) ?_
  rotate_left; focus (intro w hSw; (try dsimp only at hSw); go_simp; try (with_reducible rfl); done)
  try simp only [List.getElem_toArray, List.getElem_cons_zero, List.getElem_cons_succ, Act.put, List.setIfInBounds_toArray, List.set_cons_zero, List.set_cons_succ]
  refine wpAnyH_take (i := 8) (v := ?_) rfl (by kernel_rfl) (by kernel_rfl) (by kernel_rfl) (fun _ _ _ h => h) (Or.inl ⟨by rfl, ?_⟩) (by assumption) ?_
  rotate_left; focus (intro w hSw; (try dsimp only at hSw); go_simp; try (with_reducible rfl); done)
  try simp only [List.getElem_toArray, List.getElem_cons_zero, List.getElem_cons_succ, Act.put, List.setIfInBounds_toArray, List.set_cons_zero, List.set_cons_succ]
  refine wpAnyH_take (i := 9) (v := ?_) rfl (by kernel_rfl) (by kernel_rfl) (by kernel_rfl) (fun _ _ _ h => h) (Or.inl ⟨by rfl, ?_⟩) (by assumption) ?_
  rotate_left; focus (intro w hSw; (try dsimp only at hSw); go_simp; try (with_reducible rfl); done)
  try simp only [List.getElem_toArray, List.getElem_cons_zero, List.getElem_cons_succ, Act.put, List.setIfInBounds_toArray, List.set_cons_zero, List.set_cons_succ]
  refine wpAnyH_take (i := 10) (v := ?_) rfl (by kernel_rfl) (by kernel_rfl) (by kernel_rfl) (fun _ _ _ h => h) (Or.inl ⟨by rfl, ?_⟩) (by assumption) ?_
  rotate_left; focus (intro w hSw; (try dsimp only at hSw); go_simp; try (with_reducible rfl); done)
  try simp only [List.getElem_toArray, List.getElem_cons_zero, List.getElem_cons_succ, Act.put, List.setIfInBounds_toArray, List.set_cons_zero, List.set_cons_succ]
  refine wpAnyH_take (i := 11) (v := ?_) rfl (by kernel_rfl) (by kernel_rfl) (by kernel_rfl) (fun _ _ _ h => h) (Or.inl ⟨by rfl, ?_⟩) (by assumption) ?_
  rotate_left; focus (intro w hSw; (try dsimp only at hSw); go_simp; try (with_reducible rfl); done)
  try simp only [List.getElem_toArray, List.getElem_cons_zero, List.getElem_cons_succ, Act.put, List.setIfInBounds_toArray, List.set_cons_zero, List.set_cons_succ]
  refine wpAnyH_take (i := 12) (v := ?_) rfl (by kernel_rfl) (by kernel_rfl) (by kernel_rfl) (fun _ _ _ h => h) (Or.inl ⟨by rfl, ?_⟩) (by assumption) ?_
  rotate_left; focus (intro w hSw; (try dsimp only at hSw); go_simp; try (with_reducible rfl); done)
  try simp only [List.getElem_toArray, List.getElem_cons_zero, List.getElem_cons_succ, Act.put, List.setIfInBounds_toArray, List.set_cons_zero, List.set_cons_succ]
  refine wpAnyH_take (i := 13) (v := ?_) rfl (by kernel_rfl) (by kernel_rfl) (by kernel_rfl) (fun _ _ _ h => h) (Or.inl ⟨by rfl, ?_⟩) (by assumption) ?_
  rotate_left; focus (intro w hSw; (try dsimp only at hSw); go_simp; try (with_reducible rfl); done)
  try simp only [List.getElem_toArray, List.getElem_cons_zero, List.getElem_cons_succ, Act.put, List.setIfInBounds_toArray, List.set_cons_zero, List.set_cons_succ]
  refine wpAnyH_take (i := 15) (v := ?_) rfl (by kernel_rfl) (by kernel_rfl) (by kernel_rfl) (fun _ _ _ h => h) (Or.inl ⟨by rfl, ?_⟩) (by assumption) ?_
  rotate_left; focus (intro w hSw; (try dsimp only at hSw); go_simp; try (with_reducible rfl); done)
  try simp only [List.getElem_toArray, List.getElem_cons_zero, List.getElem_cons_succ, Act.put, List.setIfInBounds_toArray, List.set_cons_zero, List.set_cons_succ]
  refine wpAnyH_ready (rs := [14]) (by kernel_rfl) (by simp) ?_
  refine AllReadyH.cons rfl (fun K hK => ?_) AllReadyH.nil
  go_simp
  refine hK.out _ _ ?_ (fun hHeld => ?_)
  · (try dsimp only); (first | exact ⟨y259, y260, y261, y264, y265⟩ | exact ⟨z259, z260, z261, z264, z265⟩ | exact ⟨x259, x260, x261, x264, x265⟩)
  clear hK K
  try simp only [List.getElem_toArray, List.getElem_cons_zero, List.getElem_cons_succ, Act.put, List.setIfInBounds_toArray, List.set_cons_zero, List.set_cons_succ]
  refine wpAnyH_ready (rs := [16]) (by kernel_rfl) (by simp) ?_
  refine AllReadyH.cons rfl (fun K hK => ?_) AllReadyH.nil
  go_simp
  (go_at_call 131; refine (HC.out _ HST.out.drew HBW.out.drew).mono ?_; rintro e1 w1 ⟨vs2, ve, rfl, hr⟩; simp only at hr; obtain ⟨av2, nv2, cv2, rfl⟩ := Ws.shows (hr.ownAt 0 rfl); have HST1 := Lib.hid (show St w0 w1 (aCel g 240 (Ws.four AU #[] v seen 0 false) :: aOwn 3 1 (.slice av2 nv2 cv2) (st2.map (Value.int .i64)) :: aOwn 76 2 ve (out.map pairV) :: μ) from (HST.out.drew.joined hr).pick (ρ := aCel g 240 (Ws.four AU #[] v seen 0 false) :: aOwn 3 1 (.slice av2 nv2 cv2) (st2.map (Value.int .i64)) :: aOwn 76 2 ve (out.map pairV) :: μ) [2, 0, 1] 4 rfl rfl); have z259 := HST1.out.celAt (Ws.four_old (A := AU) (Z := #[]) (v := v) (seen := seen) (over := 0) (done := false) HA.out.1); have z260 := HST1.out.celAt (Ws.four_old (A := AU) (Z := #[]) (v := v) (seen := seen) (over := 0) (done := false) HA.out.2.1); have z261 := HST1.out.celAt (Ws.four_old (A := AU) (Z := #[]) (v := v) (seen := seen) (over := 0) (done := false) HA.out.2.2.1); have z264 := HST1.out.celAt (Ws.four_old (A := AU) (Z := #[]) (v := v) (seen := seen) (over := 0) (done := false) HA.out.2.2.2.2.1); have z265 := HST1.out.celAt (Ws.four_old (A := AU) (Z := #[]) (v := v) (seen := seen) (over := 0) (done := false) HA.out.2.2.2.2.2); have f0 := HST1.out.celFree 270; have g0 := HST1.out.celAt (Ws.four_new (A := AU) (Z := #[]) (v := v) (seen := seen) (over := 0) (done := false) HSZ.out).1; have f1 := HST1.out.celFree 271; have g1 := HST1.out.celAt (Ws.four_new (A := AU) (Z := #[]) (v := v) (seen := seen) (over := 0) (done := false) HSZ.out).2.1; have f2 := HST1.out.celFree 272; have g2 := HST1.out.celAt (Ws.four_new (A := AU) (Z := #[]) (v := v) (seen := seen) (over := 0) (done := false) HSZ.out).2.2.1; have f3 := HST1.out.celFree 273; have g3 := HST1.out.celAt (Ws.four_new (A := AU) (Z := #[]) (v := v) (seen := seen) (over := 0) (done := false) HSZ.out).2.2.2; simp only [Nat.reduceAdd] at g0 g1 g2 g3; clear hr)
  refine hK.out _ _ ?_ (fun hHeld => ?_)
  · (try dsimp only); (first | exact ⟨y259, y260, y261, y264, y265⟩ | exact ⟨z259, z260, z261, z264, z265⟩ | exact ⟨x259, x260, x261, x264, x265⟩)
  clear hK K
  try simp only [List.getElem_toArray, List.getElem_cons_zero, List.getElem_cons_succ, Act.put, List.setIfInBounds_toArray, List.set_cons_zero, List.set_cons_succ]
  refine wpAnyH_take (i := 17) (v := ?_) rfl (by kernel_rfl) (by kernel_rfl) (by kernel_rfl) (fun _ _ _ h => h) (Or.inl ⟨by rfl, ?_⟩) (by assumption) ?_
  rotate_left; focus (intro w hSw; (try dsimp only at hSw); go_simp; try (with_reducible rfl); done)
  try simp only [List.getElem_toArray, List.getElem_cons_zero, List.getElem_cons_succ, Act.put, List.setIfInBounds_toArray, List.set_cons_zero, List.set_cons_succ]
  refine wpAnyH_take (i := 18) (v := ?_) rfl (by kernel_rfl) (by kernel_rfl) (by kernel_rfl) (fun _ _ _ h => h) (Or.inl ⟨by rfl, ?_⟩) (by assumption) ?_
  rotate_left; focus (intro w hSw; (try dsimp only at hSw); go_simp; try (with_reducible rfl); done)
  try simp only [List.getElem_toArray, List.getElem_cons_zero, List.getElem_cons_succ, Act.put, List.setIfInBounds_toArray, List.set_cons_zero, List.set_cons_succ]
  refine wpAnyH_take (i := 19) (v := ?_) rfl (by kernel_rfl) (by kernel_rfl) (by kernel_rfl) (fun _ _ _ h => h) (Or.inl ⟨by rfl, ?_⟩) (by assumption) ?_
  rotate_left; focus (intro w hSw; (try dsimp only at hSw); go_simp; try (with_reducible rfl); done)
  try simp only [List.getElem_toArray, List.getElem_cons_zero, List.getElem_cons_succ, Act.put, List.setIfInBounds_toArray, List.set_cons_zero, List.set_cons_succ]
  refine wpAnyH_take (i := 20) (v := ?_) rfl (by kernel_rfl) (by kernel_rfl) (by kernel_rfl) (fun _ _ _ h => h) (Or.inl ⟨by rfl, ?_⟩) (by assumption) ?_
  rotate_left; focus (intro w hSw; (try dsimp only at hSw); go_simp; try (with_reducible rfl); done)
  try simp only [List.getElem_toArray, List.getElem_cons_zero, List.getElem_cons_succ, Act.put, List.setIfInBounds_toArray, List.set_cons_zero, List.set_cons_succ]
  refine wpAnyH_take (i := 21) (v := ?_) rfl (by kernel_rfl) (by kernel_rfl) (by kernel_rfl) (fun _ _ _ h => h) (Or.inl ⟨by rfl, ?_⟩) (by assumption) ?_
  rotate_left; focus (intro w hSw; (try dsimp only at hSw); go_simp; try (with_reducible rfl); done)
  try simp only [List.getElem_toArray, List.getElem_cons_zero, List.getElem_cons_succ, Act.put, List.setIfInBounds_toArray, List.set_cons_zero, List.set_cons_succ]
  refine wpAnyH_take (i := 22) (v := ?_) rfl (by kernel_rfl) (by kernel_rfl) (by kernel_rfl) (fun _ _ _ h => h) (Or.inl ⟨by rfl, ?_⟩) (by assumption) ?_
  rotate_left; focus (intro w hSw; (try dsimp only at hSw); go_simp; try (with_reducible rfl); done)
  try simp only [List.getElem_toArray, List.getElem_cons_zero, List.getElem_cons_succ, Act.put, List.setIfInBounds_toArray, List.set_cons_zero, List.set_cons_succ]
  refine wpAnyH_ready (rs := [23]) (by kernel_rfl) (by simp) ?_
  refine AllReadyH.cons rfl (fun K hK => ?_) AllReadyH.nil
  (go_simp; have HST2 := Lib.hid (Ws.set4 HSZ.out HST1.out (.slice av2 nv2 cv2) seen2 over2 done2); simp only [Nat.reduceAdd] at HST2; have x259 := HST2.out.celAt (Ws.four_old (A := AU) (Z := #[]) (v := (.slice av2 nv2 cv2)) (seen := seen2) (over := over2) (done := done2) HA.out.1); have x260 := HST2.out.celAt (Ws.four_old (A := AU) (Z := #[]) (v := (.slice av2 nv2 cv2)) (seen := seen2) (over := over2) (done := done2) HA.out.2.1); have x261 := HST2.out.celAt (Ws.four_old (A := AU) (Z := #[]) (v := (.slice av2 nv2 cv2)) (seen := seen2) (over := over2) (done := done2) HA.out.2.2.1); have x264 := HST2.out.celAt (Ws.four_old (A := AU) (Z := #[]) (v := (.slice av2 nv2 cv2)) (seen := seen2) (over := over2) (done := done2) HA.out.2.2.2.2.1); have x265 := HST2.out.celAt (Ws.four_old (A := AU) (Z := #[]) (v := (.slice av2 nv2 cv2)) (seen := seen2) (over := over2) (done := done2) HA.out.2.2.2.2.2); skip)
  refine hK.out _ _ ?_ (fun hHeld => ?_)
  · (try dsimp only); (first | exact ⟨y259, y260, y261, y264, y265⟩ | exact ⟨z259, z260, z261, z264, z265⟩ | exact ⟨x259, x260, x261, x264, x265⟩)
  clear hK K
  try simp only [List.getElem_toArray, List.getElem_cons_zero, List.getElem_cons_succ, Act.put, List.setIfInBounds_toArray, List.set_cons_zero, List.set_cons_succ]
  refine wpAnyH_take (i := 24) (v := ?_) rfl (by kernel_rfl) (by kernel_rfl) (by kernel_rfl) (fun _ _ _ h => h) (Or.inl ⟨by rfl, ?_⟩) (by assumption) ?_
  rotate_left; focus (intro w hSw; (try dsimp only at hSw); go_simp; try (with_reducible rfl); done)
  try simp only [List.getElem_toArray, List.getElem_cons_zero, List.getElem_cons_succ, Act.put, List.setIfInBounds_toArray, List.set_cons_zero, List.set_cons_succ]
  refine wpAnyH_take (i := 25) (v := ?_) rfl (by kernel_rfl) (by kernel_rfl) (by kernel_rfl) (fun _ _ _ h => h) (Or.inl ⟨by rfl, ?_⟩) (by assumption) ?_
  rotate_left; focus (intro w hSw; (try dsimp only at hSw); go_simp; try (with_reducible rfl); done)
  try simp only [List.getElem_toArray, List.getElem_cons_zero, List.getElem_cons_succ, Act.put, List.setIfInBounds_toArray, List.set_cons_zero, List.set_cons_succ]
  refine wpAnyH_done (by kernel_rfl) ?_ _
  go_wp2
  go_ret2
  exact ⟨ve, _, rfl, (HST2.out.pair)⟩
end Go.Proofs.Ytahoapgmiecphaa
