/- The checker's trees and sets in memory. No condition. -/
import Derived.Test.YtgimdbflpdmlmaaCkMath
import Derived.Test.YtgimdbflpdmlmaaMaps
import Derived.Test.YtgimdbflpdmlmaaStrOwn
import Derived.WalkLawsBesides
namespace Go.Proofs.Ytgimdbflpdmlmaa
set_option maxRecDepth 100000
open Go.RowKit Go.Shelf Go.Proofs.Ytgimdbflpdmlmaa.Ck

/-- v is a slice of these expressions, whose trees are at most n deep. -/
def ExsAt (w : World) : Nat → Value → List Ex → Prop
  | 0, v, l => l = [] ∧ ∃ a cap, v = .slice a 0 cap ∧ cap ≤ maxLen
  | n + 1, v, l => ∃ a cap, v = .slice a l.length cap ∧ l.length ≤ cap ∧ cap ≤ maxLen ∧ (l = [] ∨ ∃ b o, a = some ⟨b, o, none⟩ ∧ b < w.heap.size ∧ ∀ i e, l[i]? = some e →
      w.cell? ⟨b, o + i * 4, none⟩ = some (.string e.op) ∧ w.cell? ⟨b, o + i * 4 + 1, none⟩ = some (.int .u32 e.num) ∧ w.cell? ⟨b, o + i * 4 + 2, none⟩ = some (.string e.name) ∧
      ∃ u, w.cell? ⟨b, o + i * 4 + 3, none⟩ = some u ∧ ExsAt w n u e.args)
/-- v is a slice of these statements. -/
def StsAt (w : World) : Nat → Value → List St → Prop
  | 0, v, l => l = [] ∧ ∃ a cap, v = .slice a 0 cap ∧ cap ≤ maxLen
  | n + 1, v, l => ∃ a cap, v = .slice a l.length cap ∧ l.length ≤ cap ∧ cap ≤ maxLen ∧ (l = [] ∨ ∃ b o, a = some ⟨b, o, none⟩ ∧ b < w.heap.size ∧ ∀ i s, l[i]? = some s →
      w.cell? ⟨b, o + i * 6, none⟩ = some (.int .i64 s.kind) ∧ w.cell? ⟨b, o + i * 6 + 1, none⟩ = some (.string s.name) ∧
      ∃ ui uv ut ue, w.cell? ⟨b, o + i * 6 + 2, none⟩ = some ui ∧ w.cell? ⟨b, o + i * 6 + 3, none⟩ = some uv ∧ w.cell? ⟨b, o + i * 6 + 4, none⟩ = some ut ∧ w.cell? ⟨b, o + i * 6 + 5, none⟩ = some ue ∧
        (∃ m, ExsAt w m ui s.index) ∧ (∃ m, ExsAt w m uv s.value) ∧ StsAt w n ut s.thn ∧ StsAt w n ue s.els)
/-- v is a slice of these functions. -/
def FnsAt (w : World) (v : Value) (l : List Fu) : Prop :=
  ∃ a cap, v = .slice a l.length cap ∧ l.length ≤ cap ∧ cap ≤ maxLen ∧ (l = [] ∨ ∃ b o, a = some ⟨b, o, none⟩ ∧ b < w.heap.size ∧ ∀ i f, l[i]? = some f →
      w.cell? ⟨b, o + i * 4, none⟩ = some (.string f.name) ∧ ∃ up ul ub, w.cell? ⟨b, o + i * 4 + 1, none⟩ = some up ∧ w.cell? ⟨b, o + i * 4 + 2, none⟩ = some ul ∧ w.cell? ⟨b, o + i * 4 + 3, none⟩ = some ub ∧
        Strs w up f.params ∧ Strs w ul f.locals ∧ ∃ n, StsAt w n ub f.body)
/-- v is a slice of these arrays' declarations. -/
def ArsAt (w : World) (v : Value) (l : List (ByteArray × Int)) : Prop :=
  ∃ a cap, v = .slice a l.length cap ∧ l.length ≤ cap ∧ cap ≤ maxLen ∧ (l = [] ∨ ∃ b o, a = some ⟨b, o, none⟩ ∧ b < w.heap.size ∧ ∀ i t, l[i]? = some t →
      w.cell? ⟨b, o + i * 2, none⟩ = some (.string t.1) ∧ w.cell? ⟨b, o + i * 2 + 1, none⟩ = some (.int .i64 t.2))
def PrAt (w : World) (vs rs fs : Value) (p : Pr) : Prop := Strs w vs p.vars ∧ ArsAt w rs p.arrays ∧ FnsAt w fs p.funcs

section
variable {B : Nat} {w w' : World}
theorem ExsAt.below (hb : Below B w w') (hB : w.heap.size ≤ B) : ∀ {n : Nat} {v : Value} {l : List Ex}, ExsAt w n v l → ExsAt w' n v l
  | 0, _, _, h => h
  | n + 1, v, l, h => by
    obtain ⟨a, cap, rfl, h1, h2, h3⟩ := h
    refine ⟨a, cap, rfl, h1, h2, h3.imp id ?_⟩
    rintro ⟨b, o, rfl, hlt, hc⟩
    refine ⟨b, o, rfl, Nat.lt_of_lt_of_le hlt hb.size, fun i e he => ?_⟩
    have key : ∀ j, w'.cell? ⟨b, j, none⟩ = w.cell? ⟨b, j, none⟩ := fun j => hb.cell (p := ⟨b, j, none⟩) (by show b < B; omega)
    obtain ⟨c0, c1, c2, u, c3, hu⟩ := hc i e he
    exact ⟨(key _).trans c0, (key _).trans c1, (key _).trans c2, u, (key _).trans c3, ExsAt.below hb hB hu⟩
theorem StsAt.below (hb : Below B w w') (hB : w.heap.size ≤ B) : ∀ {n : Nat} {v : Value} {l : List St}, StsAt w n v l → StsAt w' n v l
  | 0, _, _, h => h
  | n + 1, v, l, h => by
    obtain ⟨a, cap, rfl, h1, h2, h3⟩ := h
    refine ⟨a, cap, rfl, h1, h2, h3.imp id ?_⟩
    rintro ⟨b, o, rfl, hlt, hc⟩
    refine ⟨b, o, rfl, Nat.lt_of_lt_of_le hlt hb.size, fun i e he => ?_⟩
    have key : ∀ j, w'.cell? ⟨b, j, none⟩ = w.cell? ⟨b, j, none⟩ := fun j => hb.cell (p := ⟨b, j, none⟩) (by show b < B; omega)
    obtain ⟨c0, c1, ui, uv, ut, ue, c2, c3, c4, c5, ⟨m1, x1⟩, ⟨m2, x2⟩, x3, x4⟩ := hc i e he
    exact ⟨(key _).trans c0, (key _).trans c1, ui, uv, ut, ue, (key _).trans c2, (key _).trans c3, (key _).trans c4, (key _).trans c5, ⟨m1, x1.below hb hB⟩, ⟨m2, x2.below hb hB⟩, StsAt.below hb hB x3, StsAt.below hb hB x4⟩
theorem FnsAt.below (hb : Below B w w') (hB : w.heap.size ≤ B) {v : Value} {l : List Fu} (h : FnsAt w v l) : FnsAt w' v l := by
  obtain ⟨a, cap, rfl, h1, h2, h3⟩ := h
  refine ⟨a, cap, rfl, h1, h2, h3.imp id ?_⟩
  rintro ⟨b, o, rfl, hlt, hc⟩
  refine ⟨b, o, rfl, Nat.lt_of_lt_of_le hlt hb.size, fun i e he => ?_⟩
  have key : ∀ j, w'.cell? ⟨b, j, none⟩ = w.cell? ⟨b, j, none⟩ := fun j => hb.cell (p := ⟨b, j, none⟩) (by show b < B; omega)
  obtain ⟨c0, up, ul, ub, c1, c2, c3, x1, x2, n, x3⟩ := hc i e he
  exact ⟨(key _).trans c0, up, ul, ub, (key _).trans c1, (key _).trans c2, (key _).trans c3, x1.below hb hB, x2.below hb hB, n, x3.below hb hB⟩
theorem ArsAt.below (hb : Below B w w') (hB : w.heap.size ≤ B) {v : Value} {l : List (ByteArray × Int)} (h : ArsAt w v l) : ArsAt w' v l := by
  obtain ⟨a, cap, rfl, h1, h2, h3⟩ := h
  refine ⟨a, cap, rfl, h1, h2, h3.imp id ?_⟩
  rintro ⟨b, o, rfl, hlt, hc⟩
  refine ⟨b, o, rfl, Nat.lt_of_lt_of_le hlt hb.size, fun i e he => ?_⟩
  have key : ∀ j, w'.cell? ⟨b, j, none⟩ = w.cell? ⟨b, j, none⟩ := fun j => hb.cell (p := ⟨b, j, none⟩) (by show b < B; omega)
  obtain ⟨c0, c1⟩ := hc i e he
  exact ⟨(key _).trans c0, (key _).trans c1⟩
theorem ExsAt.len {n : Nat} {v : Value} {l : List Ex} (h : ExsAt w n v l) : ∃ a cap, v = .slice a l.length cap ∧ l.length ≤ cap ∧ cap ≤ maxLen := by
  cases n with
  | zero => obtain ⟨rfl, a, cap, rfl, h1⟩ := h; exact ⟨a, cap, rfl, Nat.zero_le _, h1⟩
  | succ n => obtain ⟨a, cap, rfl, h1, h2, _⟩ := h; exact ⟨a, cap, rfl, h1, h2⟩
theorem StsAt.len {n : Nat} {v : Value} {l : List St} (h : StsAt w n v l) : ∃ a cap, v = .slice a l.length cap ∧ l.length ≤ cap ∧ cap ≤ maxLen := by
  cases n with
  | zero => obtain ⟨rfl, a, cap, rfl, h1⟩ := h; exact ⟨a, cap, rfl, Nat.zero_le _, h1⟩
  | succ n => obtain ⟨a, cap, rfl, h1, h2, _⟩ := h; exact ⟨a, cap, rfl, h1, h2⟩
end

noncomputable abbrev SK := strKey (P := Try.prog) Try.underlying9
/-- Block M is a set of these strings. -/
def SetL (w : World) (M : Nat) (l : List ByteArray) : Prop := ∃ m, MapIs SK w M m ∧ ∀ k, lookL k m = if k ∈ l then some (.bool true) else none
def smA (f : Sm) : Value := .agg #[.int .i64 f.params, .int .i64 f.need, .int .i64 f.depth]
/-- Block M tells of these functions. -/
def SumL (w : World) (M : Nat) (l : List (ByteArray × Sm)) : Prop := ∃ m, MapIs SK w M m ∧ ∀ k, lookL k m = (lookF k l).map smA
theorem SetL.look {w : World} {M : Nat} {l : List ByteArray} (h : SetL w M l) (x : ByteArray) : (Instr.lookup 37 (.map (some M)) (.string x) false).run Try.prog w = .ok (.bool (decide (x ∈ l))) w := by
  obtain ⟨m, h1, h2⟩ := h
  have := MapIs.look h1 Try.underlying37 (z := .bool false) (fun w => by kernel_rfl) x false
  rw [h2] at this
  refine Eq.trans this ?_
  by_cases hx : x ∈ l <;> simp [hx]
theorem SumL.look {w : World} {M : Nat} {l : List (ByteArray × Sm)} (h : SumL w M l) (x : ByteArray) :
    (Instr.lookup 74 (.map (some M)) (.string x) true).run Try.prog w = .ok (.tuple #[((lookF x l).map smA).getD (.agg #[.int .i64 0, .int .i64 0, .int .i64 0]), .bool (lookF x l).isSome]) w := by
  obtain ⟨m, h1, h2⟩ := h
  have := MapIs.look h1 Try.underlying74 (z := .agg #[.int .i64 0, .int .i64 0, .int .i64 0]) (fun w => by kernel_rfl) x true
  rw [h2] at this
  refine Eq.trans this ?_
  rw [if_pos rfl, Option.isSome_map]
theorem SetL.kept {w w' : World} {M : Nat} {l : List ByteArray} {row : Option Nat} (h : SetL w M l) (hg : w.grownBy w' row) (hne : some M ≠ row) : SetL w' M l := by
  obtain ⟨m, h1, h2⟩ := h
  exact ⟨m, h1.kept hg hne, h2⟩
theorem SumL.kept {w w' : World} {M : Nat} {l : List (ByteArray × Sm)} {row : Option Nat} (h : SumL w M l) (hg : w.grownBy w' row) (hne : some M ≠ row) : SumL w' M l := by
  obtain ⟨m, h1, h2⟩ := h
  exact ⟨m, h1.kept hg hne, h2⟩

/-- A panic with a violated rule. -/
def violV (v : Viol) : Value := .iface 71 (.agg #[.string v.1, .int .i64 v.2])
def Bad (v : Viol) (e : Ending) : Prop := e = .panicked [{ v := violV v, recovered := false }]
set_option maxHeartbeats 1000000 in
theorem require_any (b : Bool) (name : ByteArray) (e0 : Int) (w : World) :
    Calls Try.prog 46 #[.bool b, .string name, .int .i64 e0] w fun e w' => (if b = true then ∃ v, e = .returned v else Bad (name, e0) e) ∧ w = w' := by
  go_enter Try.func46, Try.ntmps46
  cases b with
  | true =>
    go_wp2
    go_end0
    exact ⟨⟨_, rfl⟩, rfl⟩
  | false =>
    go_wp2
    exact ⟨rfl, rfl, rfl⟩
end Go.Proofs.Ytgimdbflpdmlmaa
