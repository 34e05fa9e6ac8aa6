/- machine.execute against its plain form, whatever the word. Condition: behind a digit there is a value. -/
import Derived.Test.YtojgopbaiflfgaaGreatDoorTpExec0
import Derived.Test.YtojgopbaiflfgaaGreatDoorTpExec1
import Derived.Test.YtojgopbaiflfgaaGreatDoorTpExecA
import Derived.Test.YtojgopbaiflfgaaGreatDoorTpExecB
import Derived.Test.YtojgopbaiflfgaaGreatDoorTpExecC
import Derived.Test.YtojgopbaiflfgaaGreatDoorTpExecE
namespace Go.Proofs.YtojgopbaiflfgaaGreatDoor
set_option maxRecDepth 100000
open Go.RowKit Go.Shelf Go.Proofs.YtojgopbaiflfgaaGreatDoor.B2

/-- How an instruction leaves the machine. -/
def ExEnd (w : World) (base B M G k : Nat) (s : St) (r : Option St) (e : Ending) (w' : World) : Prop :=
  Mw base w w' ∧ match r with
    | none => Traps e ∧ ∃ s', s'.out = s.out ∧ MIn w' base B M G s' k
    | some s' => (∃ u, e = .returned u) ∧ MIn w' base B M G s' k
section
variable {w : World} {base B M G k : Nat} {s : St}
theorem ExEnd.ok {s' : St} {e : Ending} {w' : World} (h : (∃ u, e = .returned u) ∧ MIn w' base B M G s' k ∧ Mw base w w') : ExEnd w base B M G k s (some s') e w' := ⟨h.2.2, h.1, h.2.1⟩
theorem ExEnd.still (hm : MIn w base B M G s k) {e : Ending} {w' : World} (h : (∃ u, e = .returned u) ∧ w' = w) : ExEnd w base B M G k s (some s) e w' := ⟨h.2 ▸ Mw.refl _ _, h.1, h.2 ▸ hm⟩
theorem ExEnd.no (hm : MIn w base B M G s k) {e : Ending} {w' : World} (h : Traps e ∧ w' = w) : ExEnd w base B M G k s none e w' := ⟨h.2 ▸ Mw.refl _ _, h.1, s, rfl, h.2 ▸ hm⟩
theorem ExEnd.tr {e : Ending} {w' : World} (h : TrapEnd w base B M G k s e w') : ExEnd w base B M G k s none e w' := ⟨h.2.2, h.1, h.2.1⟩
theorem ExEnd.part {s' : St} (ho : s'.out = s.out) {e : Ending} {w' : World} (h : Traps e ∧ MIn w' base B M G s' k ∧ Mw base w w') : ExEnd w base B M G k s none e w' := ⟨h.2.2, h.1, s', ho, h.2.1⟩
theorem addr_none (hm : MIn w base B M G s k) (hl : s.data = []) : Calls Tryz.prog 64 #[.pointer (some ⟨B, 0, none⟩)] w (TrapEnd w base B M G k s) :=
  (addr_trap hm hl).mono fun _ _ h => ⟨h.1, ⟨s, rfl, h.2 ▸ hm⟩, h.2 ▸ Mw.refl _ _⟩
theorem addr_far (hm : MIn w base B M G s k) (a : W) (d : List W) (hl : s.data = a :: d) (ha : 262144 ≤ a.toNat) : Calls Tryz.prog 64 #[.pointer (some ⟨B, 0, none⟩)] w (TrapEnd w base B M G k s) :=
  (addr_wide hm a d hl ha).mono fun _ _ h => ⟨h.1, ⟨{ s with data := d }, rfl, h.2.1⟩, h.2.2⟩
theorem pop_none (hm : MIn w base B M G s k) (hl : s.data = []) : Calls Tryz.prog 65 #[.pointer (some ⟨B, 0, none⟩)] w (TrapEnd w base B M G k s) :=
  (pop_trap hm hl).mono fun _ _ h => ⟨h.1, ⟨s, rfl, h.2 ▸ hm⟩, h.2 ▸ Mw.refl _ _⟩
theorem at48 (h : MIn w base B M G s k) (hd : s.digit = true → s.data ≠ []) : Calls Tryz.prog 49 #[.pointer (some ⟨B, 0, none⟩), .int .u32 48] w (ExEnd w base B M G k s (execC s 48#32)) := by
  unfold execC
  rw [if_pos (by decide)]
  by_cases hdg : s.digit = true
  · rw [if_pos hdg]
    cases hdt : s.data with
    | nil => exact absurd hdt (hd hdg)
    | cons t d => exact (ex48_top h hdg t d hdt).mono fun _ _ h => ExEnd.ok h
  · rw [if_neg hdg]
    unfold pushS
    by_cases hl : s.data.length < 256
    · rw [if_pos hl]
      exact (ex48_push h (by simpa using hdg) hl).mono fun _ _ h => ExEnd.ok h
    · rw [if_neg hl]
      exact (ex48_full h (by simpa using hdg) (by omega)).mono fun _ _ h' => ExEnd.no h h'
theorem at49 (h : MIn w base B M G s k) (hd : s.digit = true → s.data ≠ []) : Calls Tryz.prog 49 #[.pointer (some ⟨B, 0, none⟩), .int .u32 49] w (ExEnd w base B M G k s (execC s 49#32)) := by
  unfold execC
  rw [if_pos (by decide)]
  by_cases hdg : s.digit = true
  · rw [if_pos hdg]
    cases hdt : s.data with
    | nil => exact absurd hdt (hd hdg)
    | cons t d => exact (ex49_top h hdg t d hdt).mono fun _ _ h => ExEnd.ok h
  · rw [if_neg hdg]
    unfold pushS
    by_cases hl : s.data.length < 256
    · rw [if_pos hl]
      exact (ex49_push h (by simpa using hdg) hl).mono fun _ _ h => ExEnd.ok h
    · rw [if_neg hl]
      exact (ex49_full h (by simpa using hdg) (by omega)).mono fun _ _ h' => ExEnd.no h h'
theorem at50 (h : MIn w base B M G s k) (hd : s.digit = true → s.data ≠ []) : Calls Tryz.prog 49 #[.pointer (some ⟨B, 0, none⟩), .int .u32 50] w (ExEnd w base B M G k s (execC s 50#32)) := by
  unfold execC
  rw [if_pos (by decide)]
  by_cases hdg : s.digit = true
  · rw [if_pos hdg]
    cases hdt : s.data with
    | nil => exact absurd hdt (hd hdg)
    | cons t d => exact (ex50_top h hdg t d hdt).mono fun _ _ h => ExEnd.ok h
  · rw [if_neg hdg]
    unfold pushS
    by_cases hl : s.data.length < 256
    · rw [if_pos hl]
      exact (ex50_push h (by simpa using hdg) hl).mono fun _ _ h => ExEnd.ok h
    · rw [if_neg hl]
      exact (ex50_full h (by simpa using hdg) (by omega)).mono fun _ _ h' => ExEnd.no h h'
theorem at51 (h : MIn w base B M G s k) (hd : s.digit = true → s.data ≠ []) : Calls Tryz.prog 49 #[.pointer (some ⟨B, 0, none⟩), .int .u32 51] w (ExEnd w base B M G k s (execC s 51#32)) := by
  unfold execC
  rw [if_pos (by decide)]
  by_cases hdg : s.digit = true
  · rw [if_pos hdg]
    cases hdt : s.data with
    | nil => exact absurd hdt (hd hdg)
    | cons t d => exact (ex51_top h hdg t d hdt).mono fun _ _ h => ExEnd.ok h
  · rw [if_neg hdg]
    unfold pushS
    by_cases hl : s.data.length < 256
    · rw [if_pos hl]
      exact (ex51_push h (by simpa using hdg) hl).mono fun _ _ h => ExEnd.ok h
    · rw [if_neg hl]
      exact (ex51_full h (by simpa using hdg) (by omega)).mono fun _ _ h' => ExEnd.no h h'
theorem at52 (h : MIn w base B M G s k) (hd : s.digit = true → s.data ≠ []) : Calls Tryz.prog 49 #[.pointer (some ⟨B, 0, none⟩), .int .u32 52] w (ExEnd w base B M G k s (execC s 52#32)) := by
  unfold execC
  rw [if_pos (by decide)]
  by_cases hdg : s.digit = true
  · rw [if_pos hdg]
    cases hdt : s.data with
    | nil => exact absurd hdt (hd hdg)
    | cons t d => exact (ex52_top h hdg t d hdt).mono fun _ _ h => ExEnd.ok h
  · rw [if_neg hdg]
    unfold pushS
    by_cases hl : s.data.length < 256
    · rw [if_pos hl]
      exact (ex52_push h (by simpa using hdg) hl).mono fun _ _ h => ExEnd.ok h
    · rw [if_neg hl]
      exact (ex52_full h (by simpa using hdg) (by omega)).mono fun _ _ h' => ExEnd.no h h'
theorem at53 (h : MIn w base B M G s k) (hd : s.digit = true → s.data ≠ []) : Calls Tryz.prog 49 #[.pointer (some ⟨B, 0, none⟩), .int .u32 53] w (ExEnd w base B M G k s (execC s 53#32)) := by
  unfold execC
  rw [if_pos (by decide)]
  by_cases hdg : s.digit = true
  · rw [if_pos hdg]
    cases hdt : s.data with
    | nil => exact absurd hdt (hd hdg)
    | cons t d => exact (ex53_top h hdg t d hdt).mono fun _ _ h => ExEnd.ok h
  · rw [if_neg hdg]
    unfold pushS
    by_cases hl : s.data.length < 256
    · rw [if_pos hl]
      exact (ex53_push h (by simpa using hdg) hl).mono fun _ _ h => ExEnd.ok h
    · rw [if_neg hl]
      exact (ex53_full h (by simpa using hdg) (by omega)).mono fun _ _ h' => ExEnd.no h h'
theorem at54 (h : MIn w base B M G s k) (hd : s.digit = true → s.data ≠ []) : Calls Tryz.prog 49 #[.pointer (some ⟨B, 0, none⟩), .int .u32 54] w (ExEnd w base B M G k s (execC s 54#32)) := by
  unfold execC
  rw [if_pos (by decide)]
  by_cases hdg : s.digit = true
  · rw [if_pos hdg]
    cases hdt : s.data with
    | nil => exact absurd hdt (hd hdg)
    | cons t d => exact (ex54_top h hdg t d hdt).mono fun _ _ h => ExEnd.ok h
  · rw [if_neg hdg]
    unfold pushS
    by_cases hl : s.data.length < 256
    · rw [if_pos hl]
      exact (ex54_push h (by simpa using hdg) hl).mono fun _ _ h => ExEnd.ok h
    · rw [if_neg hl]
      exact (ex54_full h (by simpa using hdg) (by omega)).mono fun _ _ h' => ExEnd.no h h'
theorem at55 (h : MIn w base B M G s k) (hd : s.digit = true → s.data ≠ []) : Calls Tryz.prog 49 #[.pointer (some ⟨B, 0, none⟩), .int .u32 55] w (ExEnd w base B M G k s (execC s 55#32)) := by
  unfold execC
  rw [if_pos (by decide)]
  by_cases hdg : s.digit = true
  · rw [if_pos hdg]
    cases hdt : s.data with
    | nil => exact absurd hdt (hd hdg)
    | cons t d => exact (ex55_top h hdg t d hdt).mono fun _ _ h => ExEnd.ok h
  · rw [if_neg hdg]
    unfold pushS
    by_cases hl : s.data.length < 256
    · rw [if_pos hl]
      exact (ex55_push h (by simpa using hdg) hl).mono fun _ _ h => ExEnd.ok h
    · rw [if_neg hl]
      exact (ex55_full h (by simpa using hdg) (by omega)).mono fun _ _ h' => ExEnd.no h h'
theorem at56 (h : MIn w base B M G s k) (hd : s.digit = true → s.data ≠ []) : Calls Tryz.prog 49 #[.pointer (some ⟨B, 0, none⟩), .int .u32 56] w (ExEnd w base B M G k s (execC s 56#32)) := by
  unfold execC
  rw [if_pos (by decide)]
  by_cases hdg : s.digit = true
  · rw [if_pos hdg]
    cases hdt : s.data with
    | nil => exact absurd hdt (hd hdg)
    | cons t d => exact (ex56_top h hdg t d hdt).mono fun _ _ h => ExEnd.ok h
  · rw [if_neg hdg]
    unfold pushS
    by_cases hl : s.data.length < 256
    · rw [if_pos hl]
      exact (ex56_push h (by simpa using hdg) hl).mono fun _ _ h => ExEnd.ok h
    · rw [if_neg hl]
      exact (ex56_full h (by simpa using hdg) (by omega)).mono fun _ _ h' => ExEnd.no h h'
theorem at57 (h : MIn w base B M G s k) (hd : s.digit = true → s.data ≠ []) : Calls Tryz.prog 49 #[.pointer (some ⟨B, 0, none⟩), .int .u32 57] w (ExEnd w base B M G k s (execC s 57#32)) := by
  unfold execC
  rw [if_pos (by decide)]
  by_cases hdg : s.digit = true
  · rw [if_pos hdg]
    cases hdt : s.data with
    | nil => exact absurd hdt (hd hdg)
    | cons t d => exact (ex57_top h hdg t d hdt).mono fun _ _ h => ExEnd.ok h
  · rw [if_neg hdg]
    unfold pushS
    by_cases hl : s.data.length < 256
    · rw [if_pos hl]
      exact (ex57_push h (by simpa using hdg) hl).mono fun _ _ h => ExEnd.ok h
    · rw [if_neg hl]
      exact (ex57_full h (by simpa using hdg) (by omega)).mono fun _ _ h' => ExEnd.no h h'
theorem at32 (h : MIn w base B M G s k) : Calls Tryz.prog 49 #[.pointer (some ⟨B, 0, none⟩), .int .u32 32] w (ExEnd w base B M G k s (execC s 32#32)) := by
  unfold execC
  rw [if_neg (by decide), if_pos (by decide)]
  exact (ex32 w B).mono fun _ _ h' => ExEnd.still h h'
theorem at10 (h : MIn w base B M G s k) : Calls Tryz.prog 49 #[.pointer (some ⟨B, 0, none⟩), .int .u32 10] w (ExEnd w base B M G k s (execC s 10#32)) := by
  unfold execC
  rw [if_neg (by decide), if_pos (by decide)]
  exact (ex10 w B).mono fun _ _ h' => ExEnd.still h h'
theorem at64 (h : MIn w base B M G s k) : Calls Tryz.prog 49 #[.pointer (some ⟨B, 0, none⟩), .int .u32 64] w (ExEnd w base B M G k s (execC s 64#32)) := by
  unfold execC
  rw [if_neg (by decide), if_neg (by decide), if_pos rfl]
  cases hdt : s.data with
  | nil => exact (ex64_trap h fun wx hx => addr_none hx hdt).mono fun _ _ h => ExEnd.tr h
  | cons a d =>
    by_cases ha : a.toNat < 262144
    · simp only [if_pos ha]
      exact (ex64_any h a d hdt ha).mono fun _ _ h => ExEnd.ok h
    · simp only [if_neg ha]
      exact (ex64_trap h fun wx hx => addr_far hx a d hdt (by omega)).mono fun _ _ h => ExEnd.tr h
theorem at33 (h : MIn w base B M G s k) : Calls Tryz.prog 49 #[.pointer (some ⟨B, 0, none⟩), .int .u32 33] w (ExEnd w base B M G k s (execC s 33#32)) := by
  unfold execC
  rw [if_neg (by decide), if_neg (by decide), if_neg (by decide), if_pos rfl]
  cases hdt : s.data with
  | nil => exact (ex33_addr (addr_none h hdt)).mono fun _ _ h => ExEnd.tr h
  | cons a d =>
    by_cases ha : a.toNat < 262144
    · simp only [if_pos ha]
      cases d with
      | nil => exact (ex33_trap h a [] hdt ha fun wx hx => pop_none hx rfl).mono fun _ _ h => ExEnd.tr h
      | cons v d' => exact (ex33_any h a v d' hdt ha).mono fun _ _ h => ExEnd.ok h
    · simp only [if_neg ha]
      exact (ex33_addr (addr_far h a d hdt (by omega))).mono fun _ _ h => ExEnd.tr h
theorem at63 (h : MIn w base B M G s k) : Calls Tryz.prog 49 #[.pointer (some ⟨B, 0, none⟩), .int .u32 63] w (ExEnd w base B M G k s (execC s 63#32)) := by
  unfold execC
  rw [if_neg (by decide), if_neg (by decide), if_neg (by decide), if_neg (by decide), if_pos rfl]
  cases hdt : s.data with
  | nil => exact (ex63_no h hdt).mono fun _ _ h' => ExEnd.no h h'
  | cons t d =>
    cases d with
    | nil => exact (ex63_one h t hdt).mono fun _ _ h => ExEnd.part (s' := { s with data := [] }) rfl h
    | cons v d' => exact (ex63_any h t v _ d' hdt rfl).mono fun _ _ h => ExEnd.ok h
theorem at58 (h : MIn w base B M G s k) : Calls Tryz.prog 49 #[.pointer (some ⟨B, 0, none⟩), .int .u32 58] w (ExEnd w base B M G k s (execC s 58#32)) := by
  unfold execC
  rw [if_neg (by decide), if_neg (by decide), if_neg (by decide), if_neg (by decide), if_neg (by decide), if_pos rfl]
  cases hdt : s.data with
  | nil => exact (ex58_no h hdt).mono fun _ _ h => ExEnd.tr h
  | cons t d =>
    by_cases hc : s.calls.length < 64
    · simp only [if_pos hc]
      exact (ex58_any h t d hdt hc).mono fun _ _ h => ExEnd.ok h
    · simp only [if_neg hc]
      exact (ex58_full h t d hdt (by omega)).mono fun _ _ h => ExEnd.tr h
theorem at59 (h : MIn w base B M G s k) : Calls Tryz.prog 49 #[.pointer (some ⟨B, 0, none⟩), .int .u32 59] w (ExEnd w base B M G k s (execC s 59#32)) := by
  unfold execC
  rw [if_neg (by decide), if_neg (by decide), if_neg (by decide), if_neg (by decide), if_neg (by decide), if_neg (by decide), if_pos rfl]
  cases hct : s.calls with
  | nil => exact (ex59_no h hct).mono fun _ _ h' => ExEnd.no h h'
  | cons r cs => exact (ex59_any h r cs hct).mono fun _ _ h => ExEnd.ok h
theorem at44 (h : MIn w base B M G s k) : Calls Tryz.prog 49 #[.pointer (some ⟨B, 0, none⟩), .int .u32 44] w (ExEnd w base B M G k s (execC s 44#32)) := by
  unfold execC
  rw [if_neg (by decide), if_neg (by decide), if_neg (by decide), if_neg (by decide), if_neg (by decide), if_neg (by decide), if_neg (by decide), if_pos rfl]
  unfold pushS
  by_cases hl : s.data.length < 256
  · rw [if_pos hl]
    cases hi : s.inp with
    | nil =>
      have := ex44_end h hi hl
      refine this.mono fun _ _ h => ExEnd.ok ?_
      rw [hi] at h
      exact h
    | cons x l =>
      exact (ex44_any h x l hi hl).mono fun _ _ h => ExEnd.ok h
  · rw [if_neg hl]
    cases hi : s.inp with
    | nil => exact (ex44_full h hi (by omega)).mono fun _ _ h' => ExEnd.no h h'
    | cons x l => exact (ex44_more h x l hi (by omega)).mono fun _ _ h => ExEnd.part (s' := { s with inp := l }) rfl h
theorem at46 (h : MIn w base B M G s k) (ho : s.out.length < 100000000) : Calls Tryz.prog 49 #[.pointer (some ⟨B, 0, none⟩), .int .u32 46] w (ExEnd w base B M G k s (execC s 46#32)) := by
  unfold execC
  rw [if_neg (by decide), if_neg (by decide), if_neg (by decide), if_neg (by decide), if_neg (by decide), if_neg (by decide), if_neg (by decide), if_neg (by decide), if_pos rfl]
  cases hdt : s.data with
  | nil => exact (ex46_trap h fun wx hx => pop_none hx hdt).mono fun _ _ h => ExEnd.tr h
  | cons v d => exact (ex46_any h v d hdt ho).mono fun _ _ h => ExEnd.ok h
theorem at36 (h : MIn w base B M G s k) : Calls Tryz.prog 49 #[.pointer (some ⟨B, 0, none⟩), .int .u32 36] w (ExEnd w base B M G k s (execC s 36#32)) := by
  unfold execC
  rw [if_neg (by decide), if_neg (by decide), if_neg (by decide), if_neg (by decide), if_neg (by decide), if_neg (by decide), if_neg (by decide), if_neg (by decide), if_neg (by decide), if_pos rfl]
  exact (ex36 h).mono fun _ _ h => ExEnd.ok h
theorem at43 (h : MIn w base B M G s k) : Calls Tryz.prog 49 #[.pointer (some ⟨B, 0, none⟩), .int .u32 43] w (ExEnd w base B M G k s (execC s 43#32)) := by
  unfold execC
  rw [if_neg (by decide), if_neg (by decide), if_neg (by decide), if_neg (by decide), if_neg (by decide), if_neg (by decide), if_neg (by decide), if_neg (by decide), if_neg (by decide), if_neg (by decide)]
  cases hdt : s.data with
  | nil => exact (ex43_no h hdt).mono fun _ _ h => ExEnd.tr h
  | cons b d =>
    cases d with
    | nil => exact (ex43_one h b hdt).mono fun _ _ h => ExEnd.tr h
    | cons a d' =>
      have hb : binC 43#32 a b = some (a + b) := by
        unfold binC
        rw [if_pos rfl]
      simp only [hb]
      exact (ex43_any h a b _ d' hdt rfl).mono fun _ _ h => ExEnd.ok h
theorem at45 (h : MIn w base B M G s k) : Calls Tryz.prog 49 #[.pointer (some ⟨B, 0, none⟩), .int .u32 45] w (ExEnd w base B M G k s (execC s 45#32)) := by
  unfold execC
  rw [if_neg (by decide), if_neg (by decide), if_neg (by decide), if_neg (by decide), if_neg (by decide), if_neg (by decide), if_neg (by decide), if_neg (by decide), if_neg (by decide), if_neg (by decide)]
  cases hdt : s.data with
  | nil => exact (ex45_no h hdt).mono fun _ _ h => ExEnd.tr h
  | cons b d =>
    cases d with
    | nil => exact (ex45_one h b hdt).mono fun _ _ h => ExEnd.tr h
    | cons a d' =>
      have hb : binC 45#32 a b = some (a - b) := by
        unfold binC
        rw [if_neg (by decide), if_pos rfl]
      simp only [hb]
      exact (ex45_any h a b _ d' hdt rfl).mono fun _ _ h => ExEnd.ok h
theorem at42 (h : MIn w base B M G s k) : Calls Tryz.prog 49 #[.pointer (some ⟨B, 0, none⟩), .int .u32 42] w (ExEnd w base B M G k s (execC s 42#32)) := by
  unfold execC
  rw [if_neg (by decide), if_neg (by decide), if_neg (by decide), if_neg (by decide), if_neg (by decide), if_neg (by decide), if_neg (by decide), if_neg (by decide), if_neg (by decide), if_neg (by decide)]
  cases hdt : s.data with
  | nil => exact (ex42_no h hdt).mono fun _ _ h => ExEnd.tr h
  | cons b d =>
    cases d with
    | nil => exact (ex42_one h b hdt).mono fun _ _ h => ExEnd.tr h
    | cons a d' =>
      have hb : binC 42#32 a b = some (a * b) := by
        unfold binC
        rw [if_neg (by decide), if_neg (by decide), if_pos rfl]
      simp only [hb]
      exact (ex42_any h a b _ d' hdt rfl).mono fun _ _ h => ExEnd.ok h
theorem at47 (h : MIn w base B M G s k) : Calls Tryz.prog 49 #[.pointer (some ⟨B, 0, none⟩), .int .u32 47] w (ExEnd w base B M G k s (execC s 47#32)) := by
  unfold execC
  rw [if_neg (by decide), if_neg (by decide), if_neg (by decide), if_neg (by decide), if_neg (by decide), if_neg (by decide), if_neg (by decide), if_neg (by decide), if_neg (by decide), if_neg (by decide)]
  cases hdt : s.data with
  | nil => exact (ex47_no h hdt).mono fun _ _ h => ExEnd.tr h
  | cons b d =>
    cases d with
    | nil => exact (ex47_one h b hdt).mono fun _ _ h => ExEnd.tr h
    | cons a d' =>
      by_cases hz : b = 0#32
      · have hb : binC 47#32 a b = none := by
          unfold binC
          rw [if_neg (by decide), if_neg (by decide), if_neg (by decide), if_pos rfl, if_pos hz]
        simp only [hb]
        subst hz
        exact (ex47_zero h a d' hdt).mono fun _ _ h => ExEnd.tr h
      · have hb : binC 47#32 a b = some (a / b) := by
          unfold binC
          rw [if_neg (by decide), if_neg (by decide), if_neg (by decide), if_pos rfl, if_neg hz]
        simp only [hb]
        exact (ex47_any h a b _ d' hdt hz rfl).mono fun _ _ h => ExEnd.ok h
theorem at37 (h : MIn w base B M G s k) : Calls Tryz.prog 49 #[.pointer (some ⟨B, 0, none⟩), .int .u32 37] w (ExEnd w base B M G k s (execC s 37#32)) := by
  unfold execC
  rw [if_neg (by decide), if_neg (by decide), if_neg (by decide), if_neg (by decide), if_neg (by decide), if_neg (by decide), if_neg (by decide), if_neg (by decide), if_neg (by decide), if_neg (by decide)]
  cases hdt : s.data with
  | nil => exact (ex37_no h hdt).mono fun _ _ h => ExEnd.tr h
  | cons b d =>
    cases d with
    | nil => exact (ex37_one h b hdt).mono fun _ _ h => ExEnd.tr h
    | cons a d' =>
      by_cases hz : b = 0#32
      · have hb : binC 37#32 a b = none := by
          unfold binC
          rw [if_neg (by decide), if_neg (by decide), if_neg (by decide), if_neg (by decide), if_pos rfl, if_pos hz]
        simp only [hb]
        subst hz
        exact (ex37_zero h a d' hdt).mono fun _ _ h => ExEnd.tr h
      · have hb : binC 37#32 a b = some (a % b) := by
          unfold binC
          rw [if_neg (by decide), if_neg (by decide), if_neg (by decide), if_neg (by decide), if_pos rfl, if_neg hz]
        simp only [hb]
        exact (ex37_any h a b _ d' hdt hz rfl).mono fun _ _ h => ExEnd.ok h
theorem at94 (h : MIn w base B M G s k) : Calls Tryz.prog 49 #[.pointer (some ⟨B, 0, none⟩), .int .u32 94] w (ExEnd w base B M G k s (execC s 94#32)) := by
  unfold execC
  rw [if_neg (by decide), if_neg (by decide), if_neg (by decide), if_neg (by decide), if_neg (by decide), if_neg (by decide), if_neg (by decide), if_neg (by decide), if_neg (by decide), if_neg (by decide)]
  cases hdt : s.data with
  | nil => exact (ex94_no h hdt).mono fun _ _ h => ExEnd.tr h
  | cons b d =>
    cases d with
    | nil => exact (ex94_one h b hdt).mono fun _ _ h => ExEnd.tr h
    | cons a d' =>
      have hb : binC 94#32 a b = some (a ^^^ b) := by
        unfold binC
        rw [if_neg (by decide), if_neg (by decide), if_neg (by decide), if_neg (by decide), if_neg (by decide), if_pos rfl]
      simp only [hb]
      exact (ex94_any h a b _ d' hdt rfl).mono fun _ _ h => ExEnd.ok h
theorem at60 (h : MIn w base B M G s k) : Calls Tryz.prog 49 #[.pointer (some ⟨B, 0, none⟩), .int .u32 60] w (ExEnd w base B M G k s (execC s 60#32)) := by
  unfold execC
  rw [if_neg (by decide), if_neg (by decide), if_neg (by decide), if_neg (by decide), if_neg (by decide), if_neg (by decide), if_neg (by decide), if_neg (by decide), if_neg (by decide), if_neg (by decide)]
  cases hdt : s.data with
  | nil => exact (ex60_no h hdt).mono fun _ _ h => ExEnd.tr h
  | cons b d =>
    cases d with
    | nil => exact (ex60_one h b hdt).mono fun _ _ h => ExEnd.tr h
    | cons a d' =>
      have hb : binC 60#32 a b = some (if a.toNat < b.toNat then 1#32 else 0#32) := by
        unfold binC
        rw [if_neg (by decide), if_neg (by decide), if_neg (by decide), if_neg (by decide), if_neg (by decide), if_neg (by decide), if_pos rfl]
      simp only [hb]
      exact (ex60_any h a b _ d' hdt rfl).mono fun _ _ h => ExEnd.ok h
theorem execC_else (c : W) (hc : c.toNat ∉ [48, 49, 50, 51, 52, 53, 54, 55, 56, 57, 32, 10, 64, 33, 63, 58, 59, 44, 46, 36, 43, 45, 42, 47, 37, 94, 60]) : execC s c = none := by
  have ne : ∀ n : Nat, n ∈ [48, 49, 50, 51, 52, 53, 54, 55, 56, 57, 32, 10, 64, 33, 63, 58, 59, 44, 46, 36, 43, 45, 42, 47, 37, 94, 60] → c ≠ BitVec.ofNat 32 n := fun n hn e => hc (by
    have h1 : ∀ m ∈ [48, 49, 50, 51, 52, 53, 54, 55, 56, 57, 32, 10, 64, 33, 63, 58, 59, 44, 46, 36, 43, 45, 42, 47, 37, 94, 60], m < 2 ^ 32 := by decide
    rw [e, BitVec.toNat_ofNat, Nat.mod_eq_of_lt (h1 n hn)]
    exact hn)
  have hdig : isDig c = false := by
    unfold isDig
    by_cases h1 : 48 ≤ c.toNat
    · by_cases h2 : c.toNat ≤ 57
      · exfalso
        have : ∀ m : Nat, 48 ≤ m → m ≤ 57 → m ∈ [48, 49, 50, 51, 52, 53, 54, 55, 56, 57, 32, 10, 64, 33, 63, 58, 59, 44, 46, 36, 43, 45, 42, 47, 37, 94, 60] := by
          intro m h1 h2
          have : m = 48 ∨ m = 49 ∨ m = 50 ∨ m = 51 ∨ m = 52 ∨ m = 53 ∨ m = 54 ∨ m = 55 ∨ m = 56 ∨ m = 57 := by omega
          rcases this with rfl | rfl | rfl | rfl | rfl | rfl | rfl | rfl | rfl | rfl <;> decide
        exact hc (this _ h1 h2)
      · rw [decide_eq_false h2, Bool.and_false]
    · rw [decide_eq_false h1, Bool.false_and]
  have hbin : ∀ a b, binC c a b = none := fun a b => by
    unfold binC
    rw [if_neg (ne 43 (by decide)), if_neg (ne 45 (by decide)), if_neg (ne 42 (by decide)), if_neg (ne 47 (by decide)), if_neg (ne 37 (by decide)), if_neg (ne 94 (by decide)), if_neg (ne 60 (by decide))]
  unfold execC
  rw [hdig, if_neg (by decide), if_neg (fun e => e.elim (ne 32 (by decide)) (ne 10 (by decide))), if_neg (ne 64 (by decide)), if_neg (ne 33 (by decide)), if_neg (ne 63 (by decide)), if_neg (ne 58 (by decide)), if_neg (ne 59 (by decide)), if_neg (ne 44 (by decide)), if_neg (ne 46 (by decide)), if_neg (ne 36 (by decide))]
  cases s.data with
  | nil => rfl
  | cons b d =>
    cases d with
    | nil => rfl
    | cons a d' =>
      simp only [hbin]
theorem execute_any (h : MIn w base B M G s k) (c : W) (hd : s.digit = true → s.data ≠ []) (ho : s.out.length < 100000000) : Calls Tryz.prog 49 #[.pointer (some ⟨B, 0, none⟩), .int .u32 (W32 c)] w (ExEnd w base B M G k s (execC s c)) := by
  by_cases hc : c.toNat ∈ [48, 49, 50, 51, 52, 53, 54, 55, 56, 57, 32, 10, 64, 33, 63, 58, 59, 44, 46, 36, 43, 45, 42, 47, 37, 94, 60]
  · simp only [List.mem_cons, List.not_mem_nil, or_false] at hc
    have key : ∀ n : Nat, c.toNat = n → c = BitVec.ofNat 32 n := fun n e => by rw [← e, BitVec.ofNat_toNat, BitVec.setWidth_eq]
    rcases hc with e | e | e | e | e | e | e | e | e | e | e | e | e | e | e | e | e | e | e | e | e | e | e | e | e | e | e
    · rw [key _ e]; exact at48 h hd
    · rw [key _ e]; exact at49 h hd
    · rw [key _ e]; exact at50 h hd
    · rw [key _ e]; exact at51 h hd
    · rw [key _ e]; exact at52 h hd
    · rw [key _ e]; exact at53 h hd
    · rw [key _ e]; exact at54 h hd
    · rw [key _ e]; exact at55 h hd
    · rw [key _ e]; exact at56 h hd
    · rw [key _ e]; exact at57 h hd
    · rw [key _ e]; exact at32 h
    · rw [key _ e]; exact at10 h
    · rw [key _ e]; exact at64 h
    · rw [key _ e]; exact at33 h
    · rw [key _ e]; exact at63 h
    · rw [key _ e]; exact at58 h
    · rw [key _ e]; exact at59 h
    · rw [key _ e]; exact at44 h
    · rw [key _ e]; exact at46 h ho
    · rw [key _ e]; exact at36 h
    · rw [key _ e]; exact at43 h
    · rw [key _ e]; exact at45 h
    · rw [key _ e]; exact at42 h
    · rw [key _ e]; exact at47 h
    · rw [key _ e]; exact at37 h
    · rw [key _ e]; exact at94 h
    · rw [key _ e]; exact at60 h
  · rw [execC_else c hc]
    exact (exElse h c hc).mono fun _ _ h => ExEnd.tr h
end
end Go.Proofs.YtojgopbaiflfgaaGreatDoor
