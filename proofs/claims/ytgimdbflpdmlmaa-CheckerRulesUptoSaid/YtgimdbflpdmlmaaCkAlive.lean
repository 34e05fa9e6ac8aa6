/- The chapter's examples: the laws' own small functions, and alive. No condition. -/
import Derived.Test.YtgimdbflpdmlmaaCkCheck
namespace Go.Proofs.Ytgimdbflpdmlmaa
set_option maxRecDepth 100000
open Go.RowKit Go.Shelf Go.Proofs.Ytgimdbflpdmlmaa.Ck

/-- v is this expression. -/
def ExV (w : World) (v : Value) (e : Ex) : Prop := ∃ n u, v = .agg #[.string e.op, .int .u32 e.num, .string e.name, u] ∧ ExsAt w n u e.args
/-- v is this statement. -/
def StV (w : World) (v : Value) (s : St) : Prop := ∃ n ui uv ut ue, v = .agg #[.int .i64 s.kind, .string s.name, ui, uv, ut, ue] ∧ (∃ m, ExsAt w m ui s.index) ∧ (∃ m, ExsAt w m uv s.value) ∧ StsAt w n ut s.thn ∧ StsAt w n ue s.els
section
variable {B : Nat} {w w' : World}
theorem ExV.below {v : Value} {e : Ex} (h : ExV w v e) (hb : Below w.heap.size w w') : ExV w' v e := by
  obtain ⟨n, u, rfl, h⟩ := h
  exact ⟨n, u, rfl, h.below hb (Nat.le_refl _)⟩
theorem StV.below {v : Value} {s : St} (h : StV w v s) (hb : Below w.heap.size w w') : StV w' v s := by
  obtain ⟨n, ui, uv, ut, ue, rfl, ⟨m1, h1⟩, ⟨m2, h2⟩, h3, h4⟩ := h
  exact ⟨n, ui, uv, ut, ue, rfl, ⟨m1, h1.below hb (Nat.le_refl _)⟩, ⟨m2, h2.below hb (Nat.le_refl _)⟩, h3.below hb (Nat.le_refl _), h4.below hb (Nat.le_refl _)⟩
theorem ExsAt.nil (w : World) (n : Nat) : ExsAt w n (.slice none 0 0) [] := by
  cases n with
  | zero => exact ⟨rfl, _, _, rfl, by decide⟩
  | succ n => exact ⟨_, _, rfl, Nat.le_refl _, by decide, .inl rfl⟩
theorem StsAt.nil (w : World) (n : Nat) : StsAt w n (.slice none 0 0) [] := by
  cases n with
  | zero => exact ⟨rfl, _, _, rfl, by decide⟩
  | succ n => exact ⟨_, _, rfl, Nat.le_refl _, by decide, .inl rfl⟩
theorem ArsAt.nil (w : World) : ArsAt w (.slice none 0 0) [] := ⟨_, _, rfl, Nat.le_refl _, by decide, .inl rfl⟩
theorem ExsAt.one {X n : Nat} {e : Ex} {u : Value} {t : TypeId} {m : Nat × Nat} (hX : w.heap[X]? = some (.cells #[.string e.op, .int .u32 e.num, .string e.name, u] t m)) (h : ExsAt w n u e.args) : ExsAt w (n + 1) (.slice (some ⟨X, 0, none⟩) 1 1) [e] := by
  refine ⟨_, _, rfl, Nat.le_refl _, by decide, .inr ⟨X, 0, rfl, (Array.getElem?_eq_some_iff.1 hX).1, fun i x hi => ?_⟩⟩
  cases i with
  | zero =>
    simp at hi
    subst hi
    exact ⟨by simp [World.cell?, hX], by simp [World.cell?, hX], by simp [World.cell?, hX], u, by simp [World.cell?, hX], h⟩
  | succ i => simp at hi
theorem StsAt.one {X n : Nat} {s : St} {ui uv ut ue : Value} {t : TypeId} {m : Nat × Nat} (hX : w.heap[X]? = some (.cells #[.int .i64 s.kind, .string s.name, ui, uv, ut, ue] t m)) (h1 : ∃ m, ExsAt w m ui s.index) (h2 : ∃ m, ExsAt w m uv s.value) (h3 : StsAt w n ut s.thn) (h4 : StsAt w n ue s.els) : StsAt w (n + 1) (.slice (some ⟨X, 0, none⟩) 1 1) [s] := by
  refine ⟨_, _, rfl, Nat.le_refl _, by decide, .inr ⟨X, 0, rfl, (Array.getElem?_eq_some_iff.1 hX).1, fun i x hi => ?_⟩⟩
  cases i with
  | zero =>
    simp at hi
    subst hi
    exact ⟨by simp [World.cell?, hX], by simp [World.cell?, hX], ui, uv, ut, ue, by simp [World.cell?, hX], by simp [World.cell?, hX], by simp [World.cell?, hX], by simp [World.cell?, hX], h1, h2, h3, h4⟩
  | succ i => simp at hi
theorem FnsAt.one {X n : Nat} {f : Fu} {up ul ub : Value} {t : TypeId} {m : Nat × Nat} (hX : w.heap[X]? = some (.cells #[.string f.name, up, ul, ub] t m)) (h1 : Strs w up f.params) (h2 : Strs w ul f.locals) (h3 : StsAt w n ub f.body) : FnsAt w (.slice (some ⟨X, 0, none⟩) 1 1) [f] := by
  refine ⟨_, _, rfl, Nat.le_refl _, by decide, .inr ⟨X, 0, rfl, (Array.getElem?_eq_some_iff.1 hX).1, fun i x hi => ?_⟩⟩
  cases i with
  | zero =>
    simp at hi
    subst hi
    exact ⟨by simp [World.cell?, hX], up, ul, ub, by simp [World.cell?, hX], by simp [World.cell?, hX], by simp [World.cell?, hX], h1, h2, n, h3⟩
  | succ i => simp at hi
end
def numE (n : Int) : Ex := .mk sNum n ⟨#[]⟩ []
def assignS (name : ByteArray) (e : Ex) : St := .mk 1 name [] [e] [] []
def oneP (vars : List ByteArray) (l : List St) : Pr := ⟨vars, [], [⟨sMain, [], [], l⟩]⟩
set_option maxHeartbeats 4000000 in
theorem num_any (n : Int) (w : World) : Calls Try.prog 16 #[.int .u32 n] w fun e w' => e = .returned (.agg #[.string sNum, .int .u32 n, .string ⟨#[]⟩, .slice none 0 0]) ∧ Below w.heap.size w w' := by
  go_enter Try.func16, Try.ntmps16
  go_wp2_with fail
  have hZ : (w.alloc (.cells #[.string ⟨#[110, 117, 109]⟩, .int .u32 n, .string ⟨#[]⟩, .slice none 0 0] 42)).heap[w.heap.size]? = some (.cells #[.string ⟨#[110, 117, 109]⟩, .int .u32 n, .string ⟨#[]⟩, .slice none 0 0] 42 (0, 0)) := heap_alloc_new w _
  have hb : Below w.heap.size w (w.alloc (.cells #[.string ⟨#[110, 117, 109]⟩, .int .u32 n, .string ⟨#[]⟩, .slice none 0 0] 42)) := (Below.refl _ _).alloc (Nat.le_refl _) _
  have HB := Keep.mk hb
  clear hb
  generalize (w.alloc (.cells #[.string ⟨#[110, 117, 109]⟩, .int .u32 n, .string ⟨#[]⟩, .slice none 0 0] 42)) = w1 at *
  have c0 : w1.cell? ⟨w.heap.size, 0, none⟩ = some (.string ⟨#[110, 117, 109]⟩) := by simp [World.cell?, hZ]
  have c1 : w1.cell? ⟨w.heap.size, 1, none⟩ = some (.int .u32 n) := by simp [World.cell?, hZ]
  have c2 : w1.cell? ⟨w.heap.size, 2, none⟩ = some (.string ⟨#[]⟩) := by simp [World.cell?, hZ]
  have c3 : w1.cell? ⟨w.heap.size, 3, none⟩ = some (.slice none 0 0) := by simp [World.cell?, hZ]
  refine bodyPost_ret (v := .agg #[.string ⟨#[110, 117, 109]⟩, .int .u32 n, .string ⟨#[]⟩, .slice none 0 0]) (by simp [results, Try.results16, go_sem, c0, c1, c2, c3]) rfl ?_
  exact ⟨rfl, HB.out⟩
set_option maxHeartbeats 4000000 in
theorem assign_any {w : World} {v : Value} {e : Ex} (h : ExV w v e) (name : ByteArray) : Calls Try.prog 18 #[.string name, v] w fun e' w' => ∃ sv, e' = .returned sv ∧ StV w' sv (assignS name e) ∧ Below w.heap.size w w' := by
  obtain ⟨n, u, rfl, h⟩ := h
  obtain ⟨ua, uc, rfl, _, _⟩ := h.len
  have H := Keep.mk h
  clear h
  go_enter Try.func18, Try.ntmps18
  go_wp2_with fail
  have l1 : Below w.heap.size w (w.alloc (.cells #[.string e.op, .int .u32 e.num, .string e.name, .slice ua e.args.length uc] 42)) := (Below.refl _ _).alloc (Nat.le_refl _) _
  have s1 : (w.alloc (.cells #[.string e.op, .int .u32 e.num, .string e.name, .slice ua e.args.length uc] 42)).heap.size = w.heap.size + 1 := World.size_alloc ..
  generalize (w.alloc (.cells #[.string e.op, .int .u32 e.num, .string e.name, .slice ua e.args.length uc] 42)) = w1 at *
  have e2 := heap_alloc_new w1 (.cells #[.int .i64 1, .string name, .slice none 0 0, .slice (some ⟨w.heap.size + 1 + 1, 0, none⟩) 1 1, .slice none 0 0, .slice none 0 0] 46)
  have b2 : Below w1.heap.size w1 (w1.alloc (.cells #[.int .i64 1, .string name, .slice none 0 0, .slice (some ⟨w.heap.size + 1 + 1, 0, none⟩) 1 1, .slice none 0 0, .slice none 0 0] 46)) := (Below.refl _ _).alloc (Nat.le_refl _) _
  have s2 : (w1.alloc (.cells #[.int .i64 1, .string name, .slice none 0 0, .slice (some ⟨w.heap.size + 1 + 1, 0, none⟩) 1 1, .slice none 0 0, .slice none 0 0] 46)).heap.size = w.heap.size + 1 + 1 := by rw [World.size_alloc, s1]
  rw [s1] at e2
  have l2 := l1.trans (b2.mono l1.size)
  generalize (w1.alloc (.cells #[.int .i64 1, .string name, .slice none 0 0, .slice (some ⟨w.heap.size + 1 + 1, 0, none⟩) 1 1, .slice none 0 0, .slice none 0 0] 46)) = w2 at *
  have e3 := heap_alloc_new w2 (.cells #[.string e.op, .int .u32 e.num, .string e.name, .slice ua e.args.length uc] 42)
  have b3 : Below w2.heap.size w2 (w2.alloc (.cells #[.string e.op, .int .u32 e.num, .string e.name, .slice ua e.args.length uc] 42)) := (Below.refl _ _).alloc (Nat.le_refl _) _
  rw [s2] at e3
  have e2' := (b3.block (w.heap.size + 1) (by omega)).trans e2
  have HL := Keep.mk (l2.trans (b3.mono l2.size))
  have HE3 := Keep.mk e3
  clear e2 e3 b3 b2 s2 l2 s1 l1
  generalize (w2.alloc (.cells #[.string e.op, .int .u32 e.num, .string e.name, .slice ua e.args.length uc] 42)) = w3 at *
  have c0 : w3.cell? ⟨w.heap.size + 1, 0, none⟩ = some (.int .i64 1) := by simp [World.cell?, e2']
  have c1 : w3.cell? ⟨w.heap.size + 1, 1, none⟩ = some (.string name) := by simp [World.cell?, e2']
  have c2 : w3.cell? ⟨w.heap.size + 1, 2, none⟩ = some (.slice none 0 0) := by simp [World.cell?, e2']
  have c3 : w3.cell? ⟨w.heap.size + 1, 3, none⟩ = some (.slice (some ⟨w.heap.size + 1 + 1, 0, none⟩) 1 1) := by simp [World.cell?, e2']
  have c4 : w3.cell? ⟨w.heap.size + 1, 4, none⟩ = some (.slice none 0 0) := by simp [World.cell?, e2']
  have c5 : w3.cell? ⟨w.heap.size + 1, 5, none⟩ = some (.slice none 0 0) := by simp [World.cell?, e2']
  clear e2'
  refine bodyPost_ret (v := .agg #[.int .i64 1, .string name, .slice none 0 0, .slice (some ⟨w.heap.size + 1 + 1, 0, none⟩) 1 1, .slice none 0 0, .slice none 0 0]) (by simp [results, Try.results18, go_sem, c0, c1, c2, c3, c4, c5]) rfl ?_
  exact ⟨_, rfl, ⟨0, _, _, _, _, rfl, ⟨0, ExsAt.nil _ _⟩, ⟨n + 1, ExsAt.one HE3.out (H.out.below HL.out (Nat.le_refl _))⟩, StsAt.nil _ _, StsAt.nil _ _⟩, HL.out⟩
set_option maxHeartbeats 4000000 in
theorem one_any {w : World} {vs us : Value} {vars : List ByteArray} {l : List St} {n : Nat} (h1 : Strs w vs vars) (h2 : StsAt w n us l) : Calls Try.prog 17 #[vs, us] w fun e w' => ∃ fs, e = .returned (.agg #[vs, .slice none 0 0, fs]) ∧ PrAt w' vs (.slice none 0 0) fs (oneP vars l) ∧ Below w.heap.size w w' := by
  obtain ⟨a1, c1, rfl, _⟩ := id h1
  obtain ⟨a2, c2, rfl, _⟩ := h2.len
  have H1 := Keep.mk h1
  have H2 := Keep.mk h2
  clear h1 h2
  go_enter Try.func17, Try.ntmps17
  go_wp2_with fail
  have e1 := heap_alloc_new w (.cells #[.slice a1 vars.length c1, .slice none 0 0, .slice (some ⟨w.heap.size + 1, 0, none⟩) 1 1] 26)
  have l1 : Below w.heap.size w (w.alloc (.cells #[.slice a1 vars.length c1, .slice none 0 0, .slice (some ⟨w.heap.size + 1, 0, none⟩) 1 1] 26)) := (Below.refl _ _).alloc (Nat.le_refl _) _
  have s1 : (w.alloc (.cells #[.slice a1 vars.length c1, .slice none 0 0, .slice (some ⟨w.heap.size + 1, 0, none⟩) 1 1] 26)).heap.size = w.heap.size + 1 := World.size_alloc ..
  generalize (w.alloc (.cells #[.slice a1 vars.length c1, .slice none 0 0, .slice (some ⟨w.heap.size + 1, 0, none⟩) 1 1] 26)) = w1 at *
  have e2 := heap_alloc_new w1 (.cells #[.string ⟨#[109, 97, 105, 110]⟩, .slice none 0 0, .slice none 0 0, .slice a2 l.length c2] 36)
  have b2 : Below w1.heap.size w1 (w1.alloc (.cells #[.string ⟨#[109, 97, 105, 110]⟩, .slice none 0 0, .slice none 0 0, .slice a2 l.length c2] 36)) := (Below.refl _ _).alloc (Nat.le_refl _) _
  rw [s1] at e2
  have e1' := (b2.block w.heap.size (by omega)).trans e1
  have HL := Keep.mk (l1.trans (b2.mono l1.size))
  have HE2 := Keep.mk e2
  clear e1 e2 b2 s1 l1
  generalize (w1.alloc (.cells #[.string ⟨#[109, 97, 105, 110]⟩, .slice none 0 0, .slice none 0 0, .slice a2 l.length c2] 36)) = w3 at *
  have d0 : w3.cell? ⟨w.heap.size, 0, none⟩ = some (.slice a1 vars.length c1) := by simp [World.cell?, e1']
  have d1 : w3.cell? ⟨w.heap.size, 1, none⟩ = some (.slice none 0 0) := by simp [World.cell?, e1']
  have d2 : w3.cell? ⟨w.heap.size, 2, none⟩ = some (.slice (some ⟨w.heap.size + 1, 0, none⟩) 1 1) := by simp [World.cell?, e1']
  clear e1'
  refine bodyPost_ret (v := .agg #[.slice a1 vars.length c1, .slice none 0 0, .slice (some ⟨w.heap.size + 1, 0, none⟩) 1 1]) (by simp [results, Try.results17, go_sem, d0, d1, d2]) rfl ?_
  exact ⟨_, rfl, ⟨H1.out.below HL.out (Nat.le_refl _), ArsAt.nil _, FnsAt.one (f := ⟨sMain, [], [], l⟩) HE2.out (Strs.nil _) (Strs.nil _) (H2.out.below HL.out (Nat.le_refl _))⟩, HL.out⟩
def sX : ByteArray := ⟨#[120]⟩
def sY : ByteArray := ⟨#[121]⟩
def sA : ByteArray := ⟨#[97]⟩
theorem fits_small {p : Pr} (h : (decide (∀ x ∈ p.vars, x.size ≤ 1000000) && decide (∀ x ∈ p.arrays, x.1.size ≤ 1000000) && decide (∀ f ∈ p.funcs, f.name.size ≤ 1000000 ∧ (∀ x ∈ f.params, x.size ≤ 1000000) ∧ ∀ x ∈ f.locals, x.size ≤ 1000000)) = true)
    (ht : p.vars.length + p.arrays.length + (p.funcs.map fun f => 4 + f.params.length + f.locals.length + 5 * nodesS f.body).sum ≤ 100000000) : Fits p := by
  simp only [Bool.and_eq_true, decide_eq_true_iff] at h
  obtain ⟨⟨h1, h2⟩, h3⟩ := h
  refine ⟨fun x hx => ?_, ht⟩
  rcases hx with hx | hx | ⟨f, hf, rfl | hx | hx⟩
  · exact h1 x hx
  · obtain ⟨y, hy, rfl⟩ := List.mem_map.1 hx; exact h2 y hy
  · exact (h3 f hf).1
  · exact (h3 f hf).2.1 x hx
  · exact (h3 f hf).2.2 x hx
theorem check1 : check (oneP [sX] [assignS sY (numE 1)]) = (⟨#[121]⟩, 7) := by decide +kernel
theorem check2 : check ⟨[], [], [⟨sMain, [sA], [], []⟩]⟩ = (⟨#[109, 97, 105, 110]⟩, 9) := by decide +kernel
theorem check3 : check (oneP [sX] [assignS sX (numE 1)]) = (⟨#[]⟩, 0) := by decide +kernel
theorem fits1 (x : ByteArray) : Fits (oneP [sX] [assignS x (numE 1)]) := fits_small (by kernel_rfl) (by show 1 + 0 + _ ≤ _; simp [oneP, assignS, numE, nodesS, St.nodes, nodesL, Ex.nodes])
theorem fits2 : Fits ⟨[], [], [⟨sMain, [sA], [], []⟩]⟩ := fits_small (by decide +kernel) (by simp [nodesS])

/-- A list with one string, laid down. -/
theorem strs_one (w : World) (x : ByteArray) : Strs (w.alloc (.cells #[.string x] 9)) (.slice (some ⟨w.heap.size, 0, none⟩) 1 1) [x] := Strs.made w [x] 9 (show (1 : Nat) ≤ maxLen by decide)
theorem assign_cells {w' : World} {v : Value} (name : ByteArray) (x : ByteArray) (hx : x = name) (h : StV w' v (assignS name (numE 1))) : ∃ n ui uv ut ue, v = .agg #[.int .i64 1, .string x, ui, uv, ut, ue] ∧
    ∀ T, StsAt (w'.alloc (.cells #[.int .i64 1, .string x, ui, uv, ut, ue] T)) (n + 1) (.slice (some ⟨w'.heap.size, 0, none⟩) 1 1) [assignS name (numE 1)] ∧ Below w'.heap.size w' (w'.alloc (.cells #[.int .i64 1, .string x, ui, uv, ut, ue] T)) := by
  subst hx
  obtain ⟨n, ui, uv, ut, ue, rfl, ⟨m1, g1⟩, ⟨m2, g2⟩, g3, g4⟩ := h
  refine ⟨n, ui, uv, ut, ue, rfl, fun T => ?_⟩
  have hb : Below w'.heap.size w' (w'.alloc (.cells #[.int .i64 1, .string x, ui, uv, ut, ue] T)) := (Below.refl _ _).alloc (Nat.le_refl _) _
  exact ⟨StsAt.one (s := assignS x (numE 1)) (heap_alloc_new w' _) ⟨m1, g1.below hb (Nat.le_refl _)⟩ ⟨m2, g2.below hb (Nat.le_refl _)⟩ (g3.below hb (Nat.le_refl _)) (g4.below hb (Nat.le_refl _)), hb⟩
set_option maxHeartbeats 8000000 in
theorem alive_any (w : World) : Calls Try.prog 11 #[] w fun e w' => e = .returned (.bool true) ∧ Below w.heap.size w w' := by
  go_enter Try.func11, Try.ntmps11
  go_wp2_with fail
  have HVa1 := Keep.mk (strs_one w sX)
  have La1 := Keep.mk ((Below.refl w.heap.size w).trans (((Below.refl w.heap.size w).alloc (Nat.le_refl _) (.cells #[.string ⟨#[120]⟩] 9)).mono (Below.refl w.heap.size w).size))
  refine (num_any 1 _).mono ?_
  rintro _ xa ⟨rfl, hb2⟩
  have HVa2 := Keep.mk (HVa1.out.below hb2 (Nat.le_refl _))
  have La2 := Keep.mk (La1.out.trans (hb2.mono La1.out.size))
  clear hb2 HVa1 La1
  go_wp2_with fail
  refine (assign_any (w := xa) (v := .agg #[.string sNum, .int .u32 1, .string ⟨#[]⟩, .slice none 0 0]) (e := numE 1) ⟨0, _, rfl, ExsAt.nil _ _⟩ sY).mono ?_
  rintro _ ya ⟨sv, rfl, hs3, hb3⟩
  obtain ⟨na, ui, uv, ut, ue, rfl, hst⟩ := assign_cells (w' := ya) sY ⟨#[121]⟩ rfl hs3
  have HVa3 := Keep.mk (HVa2.out.below hb3 (Nat.le_refl _))
  have La3 := Keep.mk (La2.out.trans (hb3.mono La2.out.size))
  obtain ⟨hst1, hst2⟩ := hst 46
  have HOa := Keep.mk (one_any (HVa3.out.below hst2 (Nat.le_refl _)) hst1)
  have La4 := Keep.mk (La3.out.trans (hst2.mono La3.out.size))
  clear hs3 hb3 hst hst1 hst2 HVa2 HVa3 La2 La3
  go_wp2_with fail
  refine HOa.out.mono ?_
  rintro _ za ⟨fs, rfl, hp, hb5⟩
  have La5 := Keep.mk (La4.out.trans (hb5.mono La4.out.size))
  have HCa := Keep.mk (check_any hp (fits1 sY))
  rw [check1] at HCa
  obtain ⟨af, cf, rfl, _, _⟩ := hp.2.2.len
  clear hp hb5 HOa La4
  go_wp2_with fail
  refine HCa.out.mono ?_
  rintro _ ua ⟨rfl, hb6⟩
  have LEa := Keep.mk (La5.out.trans (hb6.mono La5.out.size))
  clear hb6 HCa La5
  have M1 := Keep.mk (strs_one ua sA)
  have b1 : Below ua.heap.size ua (ua.alloc (.cells #[.string ⟨#[97]⟩] 9)) := (Below.refl _ _).alloc (Nat.le_refl _) _
  have s1 : (ua.alloc (.cells #[.string ⟨#[97]⟩] 9)).heap.size = ua.heap.size + 1 := World.size_alloc ..
  have b2 : Below (ua.alloc (.cells #[.string ⟨#[97]⟩] 9)).heap.size (ua.alloc (.cells #[.string ⟨#[97]⟩] 9)) ((ua.alloc (.cells #[.string ⟨#[97]⟩] 9)).alloc (.cells #[.string ⟨#[109, 97, 105, 110]⟩, .slice (some ⟨ua.heap.size, 0, none⟩) 1 1, .slice none 0 0, .slice none 0 0] 36)) := (Below.refl _ _).alloc (Nat.le_refl _) _
  have e2 := heap_alloc_new (ua.alloc (.cells #[.string ⟨#[97]⟩] 9)) (.cells #[.string ⟨#[109, 97, 105, 110]⟩, .slice (some ⟨ua.heap.size, 0, none⟩) 1 1, .slice none 0 0, .slice none 0 0] 36)
  rw [s1] at e2
  have HCb := Keep.mk (check_any (p := ⟨[], [], [⟨sMain, [sA], [], []⟩]⟩) ⟨Strs.nil _, ArsAt.nil _, FnsAt.one (n := 0) (f := ⟨sMain, [sA], [], []⟩) e2 (M1.out.below b2 (Nat.le_refl _)) (Strs.nil _) (StsAt.nil _ _)⟩ fits2)
  rw [check2] at HCb
  have Lb := Keep.mk (LEa.out.trans ((b1.trans (b2.mono b1.size)).mono LEa.out.size))
  clear b1 s1 b2 e2 M1
  go_wp2_with fail
  refine HCb.out.mono ?_
  rintro _ ub ⟨rfl, hb6⟩
  have LEb := Keep.mk (Lb.out.trans (hb6.mono Lb.out.size))
  clear hb6 HCb Lb LEa
  go_wp2_with fail
  have HVc1 := Keep.mk (strs_one ub sX)
  have Lc1 := Keep.mk (LEb.out.trans (((Below.refl ub.heap.size ub).alloc (Nat.le_refl _) (.cells #[.string ⟨#[120]⟩] 9)).mono LEb.out.size))
  refine (num_any 1 _).mono ?_
  rintro _ xc ⟨rfl, hb2⟩
  have HVc2 := Keep.mk (HVc1.out.below hb2 (Nat.le_refl _))
  have Lc2 := Keep.mk (Lc1.out.trans (hb2.mono Lc1.out.size))
  clear hb2 HVc1 Lc1
  go_wp2_with fail
  refine (assign_any (w := xc) (v := .agg #[.string sNum, .int .u32 1, .string ⟨#[]⟩, .slice none 0 0]) (e := numE 1) ⟨0, _, rfl, ExsAt.nil _ _⟩ sX).mono ?_
  rintro _ yc ⟨sv, rfl, hs3, hb3⟩
  obtain ⟨nc, ui, uv, ut, ue, rfl, hst⟩ := assign_cells (w' := yc) sX ⟨#[120]⟩ rfl hs3
  have HVc3 := Keep.mk (HVc2.out.below hb3 (Nat.le_refl _))
  have Lc3 := Keep.mk (Lc2.out.trans (hb3.mono Lc2.out.size))
  obtain ⟨hst1, hst2⟩ := hst 46
  have HOc := Keep.mk (one_any (HVc3.out.below hst2 (Nat.le_refl _)) hst1)
  have Lc4 := Keep.mk (Lc3.out.trans (hst2.mono Lc3.out.size))
  clear hs3 hb3 hst hst1 hst2 HVc2 HVc3 Lc2 Lc3
  go_wp2_with fail
  refine HOc.out.mono ?_
  rintro _ zc ⟨fs, rfl, hp, hb5⟩
  have Lc5 := Keep.mk (Lc4.out.trans (hb5.mono Lc4.out.size))
  have HCc := Keep.mk (check_any hp (fits1 sX))
  rw [check3] at HCc
  obtain ⟨af, cf, rfl, _, _⟩ := hp.2.2.len
  clear hp hb5 HOc Lc4
  go_wp2_with fail
  refine HCc.out.mono ?_
  rintro _ uc ⟨rfl, hb6⟩
  have LEc := Keep.mk (Lc5.out.trans (hb6.mono Lc5.out.size))
  clear hb6 HCc Lc5
  go_wp2_with fail
  go_ret
  exact ⟨rfl, LEc.out⟩
end Go.Proofs.Ytgimdbflpdmlmaa
