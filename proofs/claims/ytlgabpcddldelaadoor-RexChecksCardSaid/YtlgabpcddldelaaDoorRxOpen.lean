/-
  Regular expressions that come in, opened up to a depth. (A helper text; it claims nothing of the program.)
-/
import Derived.Test.YtlgabpcddldelaaDoorTrOpen
import Derived.Test.YtlgabpcddldelaaDoorRows
namespace Go.Proofs.YtlgabpcddldelaaDoor
set_option linter.unusedVariables false
open Go.ChangeShapes Go.WideShapes Go.ChangeAt Go.RowKit

/-- A regular expression: kind, class, kids. -/
inductive Rx where
  | mk : Int → List Int → List Rx → Rx
namespace Rx
def kind : Rx → Int | .mk p _ _ => p
def cls : Rx → List Int | .mk _ k _ => k
def kids : Rx → List Rx | .mk _ _ l => l
def parts (t : Rx) : Int × List Int × List Rx := (t.kind, t.cls, t.kids)
def noEnc : Enc Rx := ⟨6, fun _ _ _ _ => False, fun h => h.elim, fun h _ _ => h⟩
/-- No taller than n. -/
def enc : Nat → Enc Rx
  | 0 => noEnc
  | n + 1 => (Enc.prod (Enc.int .i64) (Enc.prod (Enc.row .u64 4) ((enc n).sl 64))).via parts
theorem enc_size : ∀ n, (enc n).size = 6
  | 0 => rfl
  | n + 1 => rfl
theorem enc_up {n : Nat} : ∀ {F : Nat → Prop} {w : World} {cs : List Value} {t : Rx}, (enc n).R F w cs t → (enc (n + 1)).R F w cs t := by
  induction n with
  | zero => intro F w cs t h; exact h.elim
  | succ n ih =>
    intro F w cs t h
    obtain ⟨c1, c2, rfl, h1, c3, c4, rfl, h2, ao, b, off, cap, e0, e1, e2, e3, e4, e5, e6⟩ := h
    refine ⟨c1, c3 ++ c4, rfl, h1, c3, c4, rfl, h2, ao, b, off, cap, e0, e1, e2, e3, e4, e5, fun i hi => ?_⟩
    obtain ⟨cs, g1, g2, g3⟩ := e6 i hi
    rw [enc_size] at g1 g2
    exact ⟨cs, by rw [enc_size]; exact g1, by rw [enc_size]; exact g2, ih g3⟩
theorem enc_le {n : Nat} {F : Nat → Prop} {w : World} {cs : List Value} {t : Rx} (h : (enc n).R F w cs t) : ∀ {m : Nat}, n ≤ m → (enc m).R F w cs t := by
  intro m hm
  obtain ⟨k, rfl⟩ := Nat.exists_eq_add_of_le hm
  induction k with
  | zero => exact h
  | succ k ih => exact enc_up (ih (by omega))
/-- However tall. -/
def any : Enc Rx where
  size := 6
  R := fun F w cs t => ∃ n, (Rx.enc n).R F w cs t
  len := fun ⟨n, h⟩ => by rw [(Rx.enc n).len h, Rx.enc_size]
  mono := fun ⟨n, h⟩ hF hb => ⟨n, Enc.mono _ h hF hb⟩
theorem sl_any {n : Nat} {F : Nat → Prop} {w : World} {vs : List Value} {ks : List Rx} (h : ((enc n).sl 64).R F w vs ks) : (any.sl 64).R F w vs ks := by
  obtain ⟨ao, b, off, cap, h0, h1, h2, h3, h4, h5, h6⟩ := h
  refine ⟨ao, b, off, cap, h0, h1, h2, h3, h4, h5, fun i hi => ?_⟩
  obtain ⟨cs, g1, g2, g3⟩ := h6 i hi
  rw [enc_size] at g1 g2
  exact ⟨cs, g1, g2, n, g3⟩
theorem any_sl {F : Nat → Prop} {w : World} {vs : List Value} {ks : List Rx} (h : (any.sl 64).R F w vs ks) : ∃ n, ((enc n).sl 64).R F w vs ks := by
  obtain ⟨ao, b, off, cap, h0, h1, h2, h3, h4, h5, h6⟩ := h
  have key : ∀ m, ∃ N, ∀ i (hi : i < ks.length), i < m → ∃ cs : List Value, cs.length = 6 ∧ (∀ j, j < 6 → w.cell? ⟨b, off + i * 6 + j, Option.none⟩ = cs[j]?) ∧ (enc N).R F w cs ks[i] := by
    intro m
    induction m with
    | zero => exact ⟨0, fun i _ h => by omega⟩
    | succ m ih =>
      obtain ⟨N, hN⟩ := ih
      by_cases hm : m < ks.length
      · obtain ⟨cs, g1, g2, N2, g3⟩ := h6 m hm
        refine ⟨N + N2, fun i hi hl => ?_⟩
        by_cases he : i = m
        · subst he
          exact ⟨cs, g1, g2, enc_le g3 (by omega)⟩
        · obtain ⟨cs', q1, q2, q3⟩ := hN i hi (by omega)
          exact ⟨cs', q1, q2, enc_le q3 (by omega)⟩
      · exact ⟨N, fun i hi hl => hN i hi (by omega)⟩
  obtain ⟨N, hN⟩ := key ks.length
  refine ⟨N, ao, b, off, cap, h0, h1, h2, h3, h4, h5, fun i hi => ?_⟩
  obtain ⟨cs, g1, g2, g3⟩ := hN i hi hi
  exact ⟨cs, by rw [enc_size]; exact g1, by rw [enc_size]; exact g2, g3⟩
/-- The class of a node: four words. -/
def ClsOk (c : List Int) : Prop := c.length = 4 ∧ ∀ x ∈ c, (Lit.int .u64 x).wf = true
theorem cls4 {c : List Int} (h : ClsOk c) : ∃ a b d e : Int, c = [a, b, d, e] := by
  obtain ⟨h, _⟩ := h
  match c, h with
  | [a, b, d, e], _ => exact ⟨a, b, d, e, rfl⟩
theorem cls_wf {c : List Int} (h : ClsOk c) : ∀ x ∈ c, 0 ≤ x ∧ x < 18446744073709551616 := fun x hx => by
  have := h.2 x hx
  simp [Lit.wf, IntKind.min, IntKind.max, IntKind.signed, IntKind.bits] at this
  omega
def cells (t : Rx) (vk : Value) : List Value := .int .i64 t.kind :: (t.cls.map (Value.int .u64) ++ [vk])
theorem any_open {F : Nat → Prop} {w : World} {cs : List Value} {t : Rx} (h : any.R F w cs t) : ∃ vk, cs = cells t vk ∧ (Lit.int .i64 t.kind).wf = true ∧ ClsOk t.cls ∧ (any.sl 64).R F w [vk] t.kids := by
  obtain ⟨n, hn⟩ := h
  cases n with
  | zero => exact hn.elim
  | succ m =>
    obtain ⟨c1, c2, rfl, ⟨rfl, h1⟩, c3, c4, rfl, ⟨rfl, h2, h2'⟩, h3⟩ := hn
    have h4 := h3
    obtain ⟨ao, b, off, cap, rfl, _⟩ := h4
    exact ⟨_, rfl, h1, ⟨h2, h2'⟩, sl_any h3⟩
theorem any_mk {F : Nat → Prop} {w : World} {p : Int} {k : List Int} {v : Value} {ks : List Rx} (hp : (Lit.int .i64 p).wf = true) (hk : ClsOk k) (h : (any.sl 64).R F w [v] ks) : any.R F w (cells (.mk p k ks) v) (.mk p k ks) := by
  obtain ⟨n, hn⟩ := any_sl h
  exact ⟨n + 1, [.int .i64 p], k.map (Value.int .u64) ++ [v], rfl, ⟨rfl, hp⟩, k.map (Value.int .u64), [v], rfl, ⟨rfl, hk.1, hk.2⟩, hn⟩
theorem sl_nil {F : Nat → Prop} {w : World} : (any.sl 64).R F w [.slice Option.none 0 0] [] :=
  ⟨Option.none, 0, 0, 0, rfl, Nat.le_refl _, by decide, by simp, fun _ => rfl, fun h => by simp at h, fun i hi => by simp at hi⟩
/-- How tall. -/
noncomputable def tall (t : Rx) : Nat := Rx.rec (motive_1 := fun _ => Nat) (motive_2 := fun _ => Nat) (fun _ _ _ n => n + 1) 0 (fun _ _ a b => max a b) t
end Rx
theorem opens_rex {P : Program} {t : TypeId} {f0 f1 f2 : Field} {e : TypeId} (ht : P.underlying t = some (.struct #[f0, f1, f2])) (hts : P.underlying f2.type = some (.slice t)) (hc : P.cellsOf t = 6) (hby : P.bytesOf t = 64) (o0 : f0.offset = 0) (o1 : f1.offset = 1) (o2 : f2.offset = 5)
    (c0 : P.cellsOf f0.type = 1) (c1 : P.cellsOf f1.type = 4) (c2 : P.cellsOf f2.type = 1) (k0 : P.underlying f0.type = some (.int .i64)) (k1 : P.underlying f1.type = some (.array 4 e)) (ke : P.underlying e = some (.int .u64)) (kc : P.cellsOf e = 1) : ∀ f, OpensF f P t (Rx.enc f) := by
  intro f
  induction f with
  | zero =>
    constructor
    intro H enc w base spare held fuel cs x hf h _
    obtain rfl : fuel = 0 := by omega
    simp [DataW.trod] at h
  | succ f ih =>
    have h2 : OpensF f P f2.type ((Rx.enc f).sl 64) := ((OpensF.sl hts (by rw [hc, Rx.enc_size]) (by rw [Rx.enc_size]; decide) hby ih).le (Nat.le_succ f))
    have hs := OpensF.struct (E := Enc.prod (Enc.int .i64) (Enc.prod (Enc.row .u64 4) ((Rx.enc f).sl 64))) ht (by rw [hc]; rfl) (OpensFromF.cons (f := f0) rfl o0 c0 ((Opens.int k0).upto f) (OpensFromF.cons (f := f1) rfl o1 c1 ((Opens.row k1 ke kc c1).upto f) (OpensFromF.last (f := f2) rfl o2 c2 h2)))
    constructor
    intro H enc w base spare held fuel cs x hf h hl
    obtain ⟨⟨p, k, l⟩, ha⟩ := hs.h hf h hl
    exact ⟨.mk p k l, ha⟩
theorem opens_anyRex : Opens Tryd.prog 42 Rx.any := by
  constructor
  intro H enc w base spare held fuel cs x h hl
  obtain ⟨a, ha⟩ := (opens_rex Tryd.underlying42 Tryd.underlying40 (by kernel_rfl) (by kernel_rfl) rfl rfl rfl (by kernel_rfl) (by kernel_rfl) (by kernel_rfl) Tryd.underlying3 Tryd.underlying24 Tryd.underlying22 (by kernel_rfl) fuel).h (Nat.le_refl _) h hl
  exact ⟨a, fuel, ha⟩
end Go.Proofs.YtlgabpcddldelaaDoor
