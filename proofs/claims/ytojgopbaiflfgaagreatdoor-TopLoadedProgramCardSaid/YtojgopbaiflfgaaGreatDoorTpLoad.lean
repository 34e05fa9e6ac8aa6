/- loader.Load over strips of one text. Condition: pieces are strips of one short text; the table of powers of ten lies. -/
import Derived.Test.YtojgopbaiflfgaaGreatDoorTpPc
import Derived.Test.YtojgopbaiflfgaaGreatDoorRangeD
import Derived.Test.YtojgopbaiflfgaaGreatDoorTpLoadReg
import Derived.Sort.CutIn
namespace Go.Proofs.YtojgopbaiflfgaaGreatDoor
set_option maxRecDepth 100000
open Go.RowKit Go.Shelf
attribute [local go_sem] Oper.semAt_some

/-- How Load ends. -/
def LoadEnd (w : World) (tot : Nat) (T : ByteArray) (xs : List Nat) (e : Ending) (w' : World) : Prop :=
  Below w.heap.size w w' ∧
    if xs = [] then e = .returned (.tuple #[.string ⟨#[]⟩, .slice none 0 0, .int .i64 9])
    else if missL tot xs = [] then e = .returned (.tuple #[.string (mkS (textTo T tot)), .slice none 0 0, .int .i64 0])
    else ∃ v, e = .returned (.tuple #[.string ⟨#[]⟩, v, .int .i64 19]) ∧ w'.ownsRow w.heap.size 3 1 v (missL tot xs).length (numCells (missL tot xs))
theorem frames_any (a : Option Addr) (n c : Nat) (arch : Int) (w : World) : Calls Tryz.prog 20 #[.slice a n c, .int .u32 arch] w fun e w' => e = .returned (.func (.func 35) #[] #[.pointer (some ⟨w.heap.size, 0, none⟩), .pointer (some ⟨w.heap.size + 1, 0, none⟩)]) ∧ w' = (w.alloc (.cells #[.slice a n c] 25)).alloc (.cells #[.int .u32 arch] 29) := by
  go_enter Tryz.func20, Tryz.ntmps20
  go_wp2_with fail
  go_ret
  exact ⟨rfl, rfl⟩
theorem ld_size (w : World) (va : Option Addr) (n vc arch : Nat) : ((((((((w.alloc (.cells #[.string ⟨#[]⟩] 9)).alloc (.cells #[.slice none 0 0] 30)).alloc (.cells #[.int .i64 0] 26)).alloc (.map #[] 0)).alloc (.cells #[.int .i64 0] 3)).alloc (.cells #[.map (some (w.heap.size + 1 + 1 + 1))] 66)).alloc (.cells #[.slice va n vc] 25)).alloc (.cells #[.int .u32 arch] 29)).heap.size = w.heap.size + 8 := by simp
theorem alloc_at {w : World} {o : Obj} {k : Nat} (h : k = w.heap.size) : (w.alloc o).heap[k]? = some o := by rw [h]; exact World.alloc_heap_new w o
theorem alloc_lo {w : World} {o p : Obj} {k : Nat} (h : w.heap[k]? = some p) : (w.alloc o).heap[k]? = some p := (Below.heap_alloc w o k (Array.getElem?_eq_some_iff.1 h).1).trans h
theorem ld_box (w : World) (va : Option Addr) (n vc arch : Nat) : Boxed ((((((((w.alloc (.cells #[.string ⟨#[]⟩] 9)).alloc (.cells #[.slice none 0 0] 30)).alloc (.cells #[.int .i64 0] 26)).alloc (.map #[] 0)).alloc (.cells #[.int .i64 0] 3)).alloc (.cells #[.map (some (w.heap.size + 1 + 1 + 1))] 66)).alloc (.cells #[.slice va n vc] 25)).alloc (.cells #[.int .u32 arch] 29)) (w.heap.size + 1 + 1 + 1 + 1 + 1 + 1) 25 (.slice va n vc) := by
  unfold Boxed
  exact alloc_lo (alloc_at (by simp))
theorem ld_start (w : World) (va : Option Addr) (n vc arch tot : Nat) (T : ByteArray) : LdIn w w.heap.size (w.heap.size + 1) (w.heap.size + 1 + 1) (w.heap.size + 1 + 1 + 1 + 1) (w.heap.size + 1 + 1 + 1 + 1 + 1) (w.heap.size + 1 + 1 + 1) (w.heap.size + 1 + 1 + 1 + 1 + 1 + 1 + 1) arch tot T [] ((((((((w.alloc (.cells #[.string ⟨#[]⟩] 9)).alloc (.cells #[.slice none 0 0] 30)).alloc (.cells #[.int .i64 0] 26)).alloc (.map #[] 0)).alloc (.cells #[.int .i64 0] 3)).alloc (.cells #[.map (some (w.heap.size + 1 + 1 + 1))] 66)).alloc (.cells #[.slice va n vc] 25)).alloc (.cells #[.int .u32 arch] 29)) := by
  refine ⟨alloc_lo (alloc_lo (alloc_lo (alloc_lo (alloc_lo (alloc_lo (alloc_lo (alloc_at rfl))))))), alloc_lo (alloc_lo (alloc_lo (alloc_lo (alloc_lo (alloc_lo (alloc_at (by simp))))))), alloc_lo (alloc_lo (alloc_lo (alloc_lo (alloc_lo (alloc_at (by simp)))))), alloc_lo (alloc_lo (alloc_lo (alloc_at (by simp)))), alloc_lo (alloc_lo (alloc_at (by simp))), ⟨#[], 0, alloc_lo (alloc_lo (alloc_lo (alloc_lo (alloc_at (by simp))))), rfl⟩, alloc_at (by simp), ?_⟩
  exact ((((((((Below.refl _ w).alloc (by simp) _).alloc (by simp) _).alloc (by simp; omega) _).alloc (by simp; omega) _).alloc (by simp; omega) _).alloc (by simp; omega) _).alloc (by simp; omega) _).alloc (by simp; omega) _
theorem fsOf_tot {arch tot : Nat} {T : ByteArray} {ps : List Pc} (hg : ∀ p ∈ ps, GoodP arch tot T p) (h : fsOf ps ≠ []) : 1 ≤ tot := by
  obtain ⟨i, hi⟩ := List.exists_mem_of_ne_nil _ h
  unfold fsOf at hi
  rw [List.mem_flatMap] at hi
  obtain ⟨p, hp, hi⟩ := hi
  rw [List.mem_map] at hi
  obtain ⟨q, hq, -⟩ := hi
  exact ((hg p hp).ok q (List.mem_range.1 hq)).t1
theorem boxed_notdef {w : World} {b D : Nat} {t : TypeId} {v : Value} {ds : Option (List Deferred)} (h : Boxed w b t v) (hk : w.heap[D]? = some (.deferred ds)) : b ≠ D := fun e => by
  have h1 : w.heap[b]? = some _ := h
  rw [e, hk] at h1
  cases h1
theorem load_close {W0 W : World} {b5 b6 b7 b8 M bA : Nat} {arch tot : Nat} {T : ByteArray} {xs : List Nat} {D : Nat} {u4 u5 u6 : Value} (h : LdIn W0 W0.heap.size b5 b6 b7 b8 M bA arch tot T xs W) (hk : W.heap[D]? = some (.deferred (some []))) (hD : W0.heap.size ≤ D) (h5 : W0.heap.size ≤ b5) (h6 : W0.heap.size ≤ b6) :
    ((((W.setCell ⟨W0.heap.size, 0, none⟩ u4).setCell ⟨b5, 0, none⟩ u5).setCell ⟨b6, 0, none⟩ u6).putObj D (.deferred none)).cell? ⟨W0.heap.size, 0, none⟩ = some u4 ∧
    ((((W.setCell ⟨W0.heap.size, 0, none⟩ u4).setCell ⟨b5, 0, none⟩ u5).setCell ⟨b6, 0, none⟩ u6).putObj D (.deferred none)).cell? ⟨b5, 0, none⟩ = some u5 ∧
    ((((W.setCell ⟨W0.heap.size, 0, none⟩ u4).setCell ⟨b5, 0, none⟩ u5).setCell ⟨b6, 0, none⟩ u6).putObj D (.deferred none)).cell? ⟨b6, 0, none⟩ = some u6 ∧
    Below W0.heap.size W0 ((((W.setCell ⟨W0.heap.size, 0, none⟩ u4).setCell ⟨b5, 0, none⟩ u5).setCell ⟨b6, 0, none⟩ u6).putObj D (.deferred none)) ∧
    (((W.setCell ⟨W0.heap.size, 0, none⟩ u4).setCell ⟨b5, 0, none⟩ u5).setCell ⟨b6, 0, none⟩ u6).heap[D]? = some (.deferred (some [])) := by
  have n45 : W0.heap.size ≠ b5 := boxed_ne h.r4 h.r5 (by decide)
  have n46 : W0.heap.size ≠ b6 := boxed_ne h.r4 h.r6 (by decide)
  have n56 : b5 ≠ b6 := boxed_ne h.r5 h.r6 (by decide)
  have d4 := boxed_notdef h.r4 hk
  have d5 := boxed_notdef h.r5 hk
  have d6 := boxed_notdef h.r6 hk
  have k1 : (((W.setCell ⟨W0.heap.size, 0, none⟩ u4).setCell ⟨b5, 0, none⟩ u5).setCell ⟨b6, 0, none⟩ u6).heap[D]? = some (.deferred (some [])) :=
    (Below.heap_setCell _ _ _ _ (fun e => d6 e.symm)).trans ((Below.heap_setCell _ _ _ _ (fun e => d5 e.symm)).trans ((Below.heap_setCell _ _ _ _ (fun e => d4 e.symm)).trans hk))
  have c4 := (((h.r4.set u4).other n45 u5).other n46 u6)
  have c5 := (((h.r5.other n45.symm u4).set u5).other n56 u6)
  have c6 := (((h.r6.other n46.symm u4).other n56.symm u5).set u6)
  have hb := ((h.bel.setCell (p := ⟨W0.heap.size, 0, none⟩) (Nat.le_refl _) u4).setCell (p := ⟨b5, 0, none⟩) h5 u5).setCell (p := ⟨b6, 0, none⟩) h6 u6
  generalize ((W.setCell ⟨W0.heap.size, 0, none⟩ u4).setCell ⟨b5, 0, none⟩ u5).setCell ⟨b6, 0, none⟩ u6 = wf at *
  have key : ∀ {b : Nat} {t : TypeId} {v : Value}, b ≠ D → Boxed wf b t v → Boxed (wf.putObj D (.deferred none)) b t v := fun hb hx => (World.putObj_heap_other hb).trans hx
  exact ⟨(key d4 c4).cell, (key d5 c5).cell, (key d6 c6).cell, hb.trans (belowK_b (w := W0) (Nat.le_refl _) wf D _ _ hD k1 rfl rfl), k1⟩
set_option maxHeartbeats 8000000 in
theorem load_any (v : Value) (ps : List Pc) (arch tot : Nat) (T : ByteArray) (w : World) (ha : arch < 4294967296) (htab : Tab w) (ht15 : tot ≤ 100000) (hv : Strs w v (ps.map (·.1))) (hg : ∀ p ∈ ps, GoodP arch tot T p) :
    Calls Tryz.prog 9 #[v, .int .u32 arch] w (LoadEnd w tot T (fsOf ps)) := by
  have hmm := @run_makeMap Tryz.prog
  obtain ⟨va, vc, rfl, hv1, hv2, hv3⟩ := hv
  refine (callsIn_wide (n := 3)).1 ?_
  refine callsIn_of_wp_marks Tryz.func9 rfl trivial ?_ rfl
  simp only [Tryz.ntmps9, List.size_toArray, List.length_cons, List.length_nil, Nat.reduceAdd, Nat.reduceSub, Array.replicate_succ, Array.replicate_zero, List.push_toArray, List.append_toArray, List.nil_append, List.cons_append]
  gi_wp2_with (refine ⟨trivial, ?_⟩; gi_at_call 20; refine (callsIn_wide.2 (frames_any _ _ _ _ _)).mono ?_; rintro e w' ⟨rfl, rfl⟩)
  have HI : LdIn w w.heap.size (w.heap.size + 1) (w.heap.size + 1 + 1) (w.heap.size + 1 + 1 + 1 + 1) (w.heap.size + 1 + 1 + 1 + 1 + 1) (w.heap.size + 1 + 1 + 1) (w.heap.size + 1 + 1 + 1 + 1 + 1 + 1 + 1) arch tot T [] ((((((((w.alloc (.cells #[.string ⟨#[]⟩] 9)).alloc (.cells #[.slice none 0 0] 30)).alloc (.cells #[.int .i64 0] 26)).alloc (.map #[] 0)).alloc (.cells #[.int .i64 0] 3)).alloc (.cells #[.map (some (w.heap.size + 1 + 1 + 1))] 66)).alloc (.cells #[.slice va ps.length vc] 25)).alloc (.cells #[.int .u32 arch] 29)) := ld_start w va ps.length vc arch tot T
  have HBL := ld_box w va ps.length vc arch
  have HSZ := ld_size w va ps.length vc arch
  generalize ((((((((w.alloc (.cells #[.string ⟨#[]⟩] 9)).alloc (.cells #[.slice none 0 0] 30)).alloc (.cells #[.int .i64 0] 26)).alloc (.map #[] 0)).alloc (.cells #[.int .i64 0] 3)).alloc (.cells #[.map (some (w.heap.size + 1 + 1 + 1))] 66)).alloc (.cells #[.slice va ps.length vc] 25)).alloc (.cells #[.int .u32 arch] 29)) = w1 at *
  have HBLl : w.heap.size + 1 + 1 + 1 + 1 + 1 + 1 < w1.heap.size := by omega
  have HMl : w.heap.size + 1 + 1 + 1 < w1.heap.size := by omega
  have HM0 : w.heap.size ≤ w.heap.size + 1 + 1 + 1 := by omega
  have H70 : w.heap.size ≤ w.heap.size + 1 + 1 + 1 + 1 := by omega
  have HW0 : w.heap.size ≤ w1.heap.size := by omega
  have H50 : w.heap.size ≤ w.heap.size + 1 := by omega
  have H60 : w.heap.size ≤ w.heap.size + 1 + 1 := by omega
  clear HSZ hmm
  generalize w.heap.size + 1 + 1 + 1 + 1 + 1 + 1 + 1 = bA at *
  generalize w.heap.size + 1 + 1 + 1 + 1 + 1 + 1 = bl at *
  generalize w.heap.size + 1 + 1 + 1 + 1 + 1 = b8 at *
  generalize w.heap.size + 1 + 1 + 1 + 1 = b7 at *
  generalize w.heap.size + 1 + 1 + 1 = M at *
  generalize w.heap.size + 1 + 1 = b6 at *
  generalize w.heap.size + 1 = b5 at *
  obtain ⟨u46, e46⟩ : ∃ u : Value, Keep (undef = u) := ⟨_, ⟨rfl⟩⟩
  obtain ⟨u47, e47⟩ : ∃ u : Value, Keep (undef = u) := ⟨_, ⟨rfl⟩⟩
  obtain ⟨u48, e48⟩ : ∃ u : Value, Keep (undef = u) := ⟨_, ⟨rfl⟩⟩
  obtain ⟨u49, e49⟩ : ∃ u : Value, Keep (undef = u) := ⟨_, ⟨rfl⟩⟩
  obtain ⟨u50, e50⟩ : ∃ u : Value, Keep (undef = u) := ⟨_, ⟨rfl⟩⟩
  obtain ⟨u51, e51⟩ : ∃ u : Value, Keep (undef = u) := ⟨_, ⟨rfl⟩⟩
  obtain ⟨u52, e52⟩ : ∃ u : Value, Keep (undef = u) := ⟨_, ⟨rfl⟩⟩
  refine wpIn_range_d rfl (by decide) rfl trivial (enters_of Tryz.func35 (by kernel_rfl) rfl)
    (fun i : Nat => #[.agg #[.int .u32 arch, .int .i64 i, .int .i64 tot, .string (pieceT T i)]]) (fun _ => rfl)
    (LdIn w w.heap.size b5 b6 b7 b8 M bA arch tot T) (fun _ _ _ => False) (fun _ i => 1 ≤ tot ∧ i < tot) (fun xs => xs = fsOf ps) w.heap.size HW0
    (LdIn.own HW0 HMl) (fun _ _ _ _ _ hs _ _ => hs) HI
    (fun i Y => { tmps := #[Value.slice va ps.length vc, Value.int IntKind.u32 arch, undef, undef, Value.pointer (some ⟨w.heap.size, 0, none⟩), Value.pointer (some ⟨b5, 0, none⟩), Value.pointer (some ⟨b6, 0, none⟩), Value.pointer (some ⟨b7, 0, none⟩), Value.pointer (some ⟨b8, 0, none⟩), Value.pointer (some ⟨Y, 0, none⟩), undef, undef, undef, undef, undef, undef, undef, Value.map (some M), Value.slice va ps.length vc, Value.int IntKind.u32 arch, Value.func (Fn.func 35) #[] #[Value.pointer (some ⟨bl, 0, none⟩), Value.pointer (some ⟨bA, 0, none⟩)], Value.agg #[Value.int IntKind.u32 arch, Value.int IntKind.i64 i, Value.int IntKind.i64 tot, Value.string (pieceT T i)], undef, undef, undef, undef, undef, undef, undef, undef, undef, undef, undef, undef, undef, undef, undef, undef, undef, undef, undef, undef, undef, undef, undef, undef, u46, u47, u48, u49, u50, u51, u52, undef, undef, undef, undef, undef, undef, undef, undef, undef, undef, undef, undef, undef, undef, undef, undef, undef, undef, undef, undef, undef, undef, undef, undef, undef, undef], defers := [] })
    (fun i => .cells #[.int .u32 arch, .int .i64 i, .int .i64 tot, .string (pieceT T i)] 53) ?assign ?body ?iter ?done ?stop
  case assign =>
    intro l i W K hK
    rw [← e46.out, ← e47.out, ← e48.out, ← e49.out, ← e50.out, ← e51.out, ← e52.out] at hK
    gi_wp2
    exact hK
  case body =>
    intro l pre i Y W hY hyb hI hok
    have HI := Keep.mk hI
    have HOK := Keep.mk hok
    have htt := hI.tt.cell
    have htx := hI.tx.cell
    have htf := hI.tt.frozen
    have y0 : W.cell? ⟨Y, 0, none⟩ = some (.int .u32 arch) := by simp [World.cell?, hyb]
    have y1 : W.cell? ⟨Y, 1, none⟩ = some (.int .i64 i) := by simp [World.cell?, hyb]
    have y2 : W.cell? ⟨Y, 2, none⟩ = some (.int .i64 tot) := by simp [World.cell?, hyb]
    have y3 : W.cell? ⟨Y, 3, none⟩ = some (.string (pieceT T i)) := by simp [World.cell?, hyb]
    have yl : Y < W.heap.size := (Array.getElem?_eq_some_iff.1 hyb).1
    have hlk := hI.mp.look Tryz.underlying66 (z := .string ⟨#[]⟩) (fun w => by kernel_rfl) (i : Int) true
    rw [show kInt.kv (i : Int) = .int .i64 i from rfl, if_pos rfl, look_mapT] at hlk
    have t1 : ((tot : Int) != 0) = true := by have := hok.1; simp; omega
    have H3 : pre = [] ∨ (pre ≠ [] ∧ i ∉ pre) ∨ (pre ≠ [] ∧ i ∈ pre) := by
      by_cases h1 : pre = []
      · exact .inl h1
      · by_cases h2 : i ∈ pre
        · exact .inr (.inr ⟨h1, h2⟩)
        · exact .inr (.inl ⟨h1, h2⟩)
    have HT0 : Keep (Boxed W b7 3 (.int .i64 (totB tot pre))) := ⟨hI.tt⟩
    have HYB := Keep.mk hyb
    clear hI hok hyb
    rcases H3 with h1 | ⟨h1, h2⟩ | ⟨h1, h2⟩
    case' inl =>
      simp only [if_neg (show i ∉ pre by rw [h1]; simp), Option.getD_none, Option.isSome_none] at hlk
      rw [show totB tot pre = 0 from if_pos h1] at htt
      clear h1
      gi_upto_region 7 with (fail)
    case' inr.inl =>
      simp only [if_neg h2, Option.getD_none, Option.isSome_none] at hlk
      rw [show totB tot pre = tot from if_neg h1] at htt
      clear h1 h2
      gi_upto_region 7 with (fail)
    case' inr.inr =>
      simp only [if_pos h2, Option.getD_some, Option.isSome_some] at hlk
      rw [show totB tot pre = tot from if_neg h1] at htt
      clear h1 h2
      gi_upto_region 7 with (fail)
    all_goals (
      clear hlk htt htx htf y0 y1 y2 y3 yl t1
      apply wpIn_region_inv7 (P := Tryz.prog) u46 u47 u48 u49 u50 u51 u52 (R7 w W w1.heap.size w.heap.size b5 b6 b7 b8 M bA Y arch tot T pre i)
      · kernel_rfl
      · kernel_rfl
      · exact ⟨fun h => by simp at h, fun h => by simp at h, fun h => by simp at h, fun h => by simp at h, fun h => by simp at h, fun h => by simp at h, fun h => by simp at h, LdSt.start HI.out HYB.out⟩
      · refine ⟨?_, ?_, ?_, ?_, ?_, ?_, ?_, ?_, ?_, trivial⟩
        · intro L v0 v1 v2 v3 v4 v5 v6 wx hL hd hR K' hK
          rw [if_pos (by rfl)]
          clear hd hL
          have HR := Keep.mk hR
          have HK := Keep.mk hK
          clear hR hK
          have htx := HR.out.st.tx.cell
          go_simp
          exact HK.out _ _ _ _ _ _ _ _ HR.out.put0
        · intro L v0 v1 v2 v3 v4 v5 v6 wx hL hd hR K' hK
          rw [if_pos (by rfl)]
          clear hd hL
          have HR := Keep.mk hR
          have HK := Keep.mk hK
          clear hR hK
          go_simp
          exact HK.out _ _ _ _ _ _ _ _ HR.out.put1
        · intro L v0 v1 v2 v3 v4 v5 v6 wx hL hd hR K' hK
          rw [if_pos (by rfl)]
          have hd' : L 1 = true := by simpa [Region.binds] using hd
          clear hd hL
          have HR := Keep.mk hR
          have HK := Keep.mk hK
          clear hR hK
          obtain rfl := HR.out.s1 hd'
          have hyc : wx.cell? ⟨Y, 1, none⟩ = some (.int .i64 i) := by simp [World.cell?, HR.out.st.yb]
          have hyl : Y < wx.heap.size := (Array.getElem?_eq_some_iff.1 HR.out.st.yb).1
          go_simp
          exact HK.out _ _ _ _ _ _ _ _ HR.out.put2
        · intro L v0 v1 v2 v3 v4 v5 v6 wx hL hd hR K' hK
          rw [if_pos (by rfl)]
          clear hd hL
          have HR := Keep.mk hR
          have HK := Keep.mk hK
          clear hR hK
          go_simp
          exact HK.out _ _ _ _ _ _ _ _ HR.out.put3
        · intro L v0 v1 v2 v3 v4 v5 v6 wx hL hd hR K' hK
          rw [if_pos (by rfl)]
          have hd' : L 3 = true := by simpa [Region.binds] using hd
          clear hd hL
          have HR := Keep.mk hR
          have HK := Keep.mk hK
          clear hR hK
          obtain rfl := HR.out.s3 hd'
          have hyc : wx.cell? ⟨Y, 2, none⟩ = some (.int .i64 tot) := by simp [World.cell?, HR.out.st.yb]
          have hyl : Y < wx.heap.size := (Array.getElem?_eq_some_iff.1 HR.out.st.yb).1
          go_simp
          exact HK.out _ _ _ _ _ _ _ _ HR.out.put4
        · intro L v0 v1 v2 v3 v4 v5 v6 wx hL hd hR K' hK
          rw [if_pos (by rfl)]
          clear hd hL
          have HR := Keep.mk hR
          have HK := Keep.mk hK
          clear hR hK
          go_simp
          exact HK.out _ _ _ _ _ _ _ _ HR.out.put5
        · intro L v0 v1 v2 v3 v4 v5 v6 wx hL hd hR K' hK
          rw [if_pos (by rfl)]
          have hd' : L 5 = true := by simpa [Region.binds] using hd
          clear hd hL
          have HR := Keep.mk hR
          have HK := Keep.mk hK
          clear hR hK
          obtain rfl := HR.out.s5 hd'
          have hyc : wx.cell? ⟨Y, 3, none⟩ = some (.string (pieceT T i)) := by simp [World.cell?, HR.out.st.yb]
          have hyl : Y < wx.heap.size := (Array.getElem?_eq_some_iff.1 HR.out.st.yb).1
          go_simp
          exact HK.out _ _ _ _ _ _ _ _ HR.out.put6
        · intro L v0 v1 v2 v3 v4 v5 v6 wx hL hd hR K' hK
          rw [if_pos (by rfl)]
          have hd' : L 4 = true := by
            have : L 4 = true ∧ L 3 = true ∧ L 4 = true := by simpa [Region.binds] using hd
            exact this.1
          clear hd hL
          have HR := Keep.mk hR
          have HK := Keep.mk hK
          clear hR hK
          obtain rfl := HR.out.s4 hd'
          have htf := HR.out.st.tt.frozen
          have htc := HR.out.st.tt.cell
          have htl := HR.out.st.tt.lt
          go_simp
          exact HK.out _ _ _ _ _ _ _ _ (HR.out.put7 H70)
        · intro L v0 v1 v2 v3 v4 v5 v6 wx hL hd hR K' hK
          rw [if_pos (by rfl)]
          have hd' : L 0 = true ∧ L 2 = true ∧ L 6 = true ∧ L 7 = true ∧ L 0 = true ∧ L 1 = true ∧ L 2 = true ∧ L 3 = true ∧ L 4 = true ∧ L 5 = true ∧ L 6 = true ∧ L 7 = true := by simpa [Region.binds] using hd
          have hm := hR.st.mp
          rw [if_neg (by rw [hL]; simp)] at hm
          obtain rfl := hR.s0 hd'.1
          obtain rfl := hR.s2 hd'.2.1
          obtain rfl := hR.s6 hd'.2.2.1
          clear hd hd'
          refine wpIn_store (K := kInt) (.tmp 46) (.tmp 48) (.tmp 52) 66 rfl Tryz.underlying66 rfl hm (i : Int) rfl ?_
          intro wy hmy hgy
          exact hK _ _ _ _ _ _ _ _ (hR.put8 HM0 HMl (by rw [mapT_snoc]; exact hmy) hgy)
      · intro v0 v1 v2 v3 v4 v5 v6 wx hR
        exact ⟨hR.st.kf, hR.st.bel, hR.st.fin HI.out⟩)
  case iter =>
    intro l L Lx W1 hL hsz hb1 hI1 hL1 hY
    have HLk := Keep.mk hL
    have HY := Keep.mk hY
    have hbl1 : Boxed W1 bl 25 (.slice va ps.length vc) := (hb1.block bl HBLl).trans HBL
    have hblc := hbl1.cell
    have hbll := hbl1.lt
    have HI1 := Keep.mk hI1
    have HL1 := Keep.mk hL1
    have HPS : Keep (∀ (W : World) (j : Nat) (p : Pc), ps[j]? = some p → Below w.heap.size w W → ∃ b o, va = some ⟨b, o, none⟩ ∧ b < W.heap.size ∧ W.cell? ⟨b, o + j, none⟩ = some (.string p.1)) := ⟨fun W j p hp hb => by
      rcases hv3 with h0 | ⟨b, o, rfl, hlt, hc⟩
      · have : ps = [] := by simpa using h0
        rw [this] at hp
        simp at hp
      · exact ⟨b, o, rfl, Nat.lt_of_lt_of_le hlt hb.size, (hb.cell (p := ⟨b, o + j, none⟩) hlt).trans (hc j p.1 (by rw [List.getElem?_map, hp]; rfl))⟩⟩
    have HTB : Keep (∀ W, Below w.heap.size w W → Tab W) := ⟨fun W hb => htab.below hb⟩
    have HG := Keep.mk hg
    have hvl : ps.length ≤ vc := by simpa using hv1
    unfold maxLen at hv2
    clear hL hY hI1 hL1 hv3 htab hg hv1 hb1 hbl1 HBL HBLl HI
    refine callsIn_of_wp Tryz.func35 rfl trivial ?_ rfl
    simp only [Tryz.ntmps35, List.size_toArray, List.length_cons, List.length_nil, Nat.reduceAdd, Nat.reduceSub, Array.replicate_succ, Array.replicate_zero, List.push_toArray, List.append_toArray, List.nil_append, List.cons_append]
    gi_wp2
    gi_loopw [11] (fun i wr => ∃ j : Nat, j ≤ ps.length ∧ i = .int .i64 j ∧ Keep (LdIn w w.heap.size b5 b6 b7 b8 M bA arch tot T (fsOf (ps.take j)) wr) ∧ Keep (L wr)) (fun i _ => ps.length - (intOf i).toNat)
    case atStart => exact ⟨0, Nat.zero_le _, rfl, HI1, HL1⟩
    case round =>
      obtain ⟨j, hj, rfl, HIr, HLr⟩ := hrel
      by_cases hlt : j < ps.length
      · have k0 : (j : Int) < ps.length := by omega
        obtain ⟨⟨s, a, n⟩, hp⟩ : ∃ p, ps[j]? = some p := ⟨_, List.getElem?_eq_getElem hlt⟩
        obtain ⟨b, o, rfl, hb1, hc1⟩ := HPS.out wr j _ hp HIr.out.bel
        have HGP := Keep.mk (HG.out _ (List.mem_of_getElem? hp))
        have HTK : Keep (fsOf (ps.take (j + 1)) = fsOf (ps.take j) ++ (List.range n).map (a + ·)) := ⟨by rw [List.take_add_one, hp, fsOf_append]; simp [fsOf]⟩
        clear hp
        dsimp only at hc1
        have hss : s.size ≤ 100000 := by have h1 := HGP.out.hi; have h2 := HGP.out.n4; dsimp only at h1 h2; omega
        have HZ := Keep.mk (And.intro HGP.out.lo HGP.out.hi)
        dsimp only at HZ
        gi_wp2
        clear hb1 hc1
        have HIo := HIr
        have HLo := HLr
        generalize wr = wo at *
        gi_loopw [6] (fun i wr => ∃ k : Nat, (k = 0 ∨ k + 767 ≤ s.size) ∧ i = .int .i64 k ∧ Keep (LdIn w w.heap.size b5 b6 b7 b8 M bA arch tot T (fsOf (ps.take j) ++ (List.range ((k + 767) / 768)).map (a + ·)) wr) ∧ Keep (L wr)) (fun i _ => s.size + 1 - (intOf i).toNat)
        case atStart => exact ⟨0, .inl rfl, rfl, ⟨by simpa using HIo.out⟩, HLo⟩
        case round =>
          obtain ⟨k, hk, rfl, HIk, HLk'⟩ := hrel
          by_cases hfit : k + 768 ≤ s.size
          · have q0 : (k : Int) + 768 ≤ s.size := by omega
            by_cases hq : k % 768 = 0
            · have HIP : Keep (∀ w, Calls Tryz.prog 7 #[.string s, .int .i64 k] w fun e w' => e = .returned (.bool true) ∧ w' = w) := ⟨fun w => by
                have := isPlain_any s k (by unfold maxLen; omega) (by omega) w
                rw [HGP.out.pl k hfit, decide_eq_true hq] at this
                exact this⟩
              obtain ⟨q, rfl⟩ : ∃ q, k = 768 * q := ⟨k / 768, by omega⟩
              have hqn : q < n := by have h1 := HGP.out.hi; dsimp only at h1; omega
              have HOKq := Keep.mk (HGP.out.ok q hqn)
              have HOK1 : Keep (1 ≤ tot ∧ a + q < tot) := ⟨HOKq.out.t1, HOKq.out.i1⟩
              have HC : Keep ((768 * q + 767) / 768 = q ∧ (768 * q + 1 + 767) / 768 = q + 1) := ⟨by omega⟩
              have HDE : Keep (∀ w, Tab w → Calls Tryz.prog 36 #[.string (s.extract (768 * q + 16) (768 * q + 768))] w fun e w' => e = .returned (.tuple #[.agg #[.int .u32 arch, .int .i64 ((a + q : Nat) : Int), .int .i64 tot, .string (pieceT T (a + q))], .int .i64 0]) ∧ Below w.heap.size w w') := ⟨fun w ht => decode_any arch (a + q) tot (pieceT T (a + q)) _ ha HOKq.out (HGP.out.cut q hqn) w ht⟩
              obtain ⟨X, hX⟩ : ∃ X, X = a + q := ⟨_, rfl⟩
              rw [← hX] at HDE HOK1
              have HX := Keep.mk hX
              have hk1 : 768 * q < s.size := by omega
              have HF := Keep.mk hfit
              rw [HC.out.1] at HIk
              generalize 768 * q = k at *
              clear hk hq hX hqn HOKq
              gi_upto_region 7 with (refine ⟨trivial, ?_⟩; gi_at_call 7; refine (callsIn_wide.2 (HIP.out _)).mono ?_; rintro e w' ⟨rfl, rfl⟩)
              gi_upto_region 8 with (refine ⟨trivial, ?_⟩; gi_at_call 36; refine (callsIn_wide.2 (HDE.out _ (HTB.out _ HIk.out.bel))).mono ?_; rintro e w2 ⟨rfl, hb2⟩)
              have hyb := heap_alloc_new w2 (.cells #[.int .u32 arch, .int .i64 X, .int .i64 tot, .string (pieceT T X)] 53)
              have hb3 : Below w2.heap.size w2 (w2.alloc (.cells #[.int .u32 arch, .int .i64 X, .int .i64 tot, .string (pieceT T X)] 53)) := (Below.refl _ _).alloc (Nat.le_refl _) _
              have HIb := Keep.mk ((HIk.out.below hb2).below hb3)
              have HLb := Keep.mk (HLk.out _ _ (HLk.out _ _ HLk'.out (keepsOthers_below hb2)) (keepsOthers_below hb3))
              generalize (w2.alloc (.cells #[.int .u32 arch, .int .i64 X, .int .i64 tot, .string (pieceT T X)] 53)) = wb at *
              generalize w2.heap.size = Y at *
              have y0 : wb.cell? ⟨Y, 0, none⟩ = some (.int .u32 arch) := by simp [World.cell?, hyb]
              have y1 : wb.cell? ⟨Y, 1, none⟩ = some (.int .i64 X) := by simp [World.cell?, hyb]
              have y2 : wb.cell? ⟨Y, 2, none⟩ = some (.int .i64 tot) := by simp [World.cell?, hyb]
              have y3 : wb.cell? ⟨Y, 3, none⟩ = some (.string (pieceT T X)) := by simp [World.cell?, hyb]
              have yl : Y < wb.heap.size := (Array.getElem?_eq_some_iff.1 hyb).1
              have hac := HIb.out.ar.cell
              have hal := HIb.out.ar.lt
              obtain ⟨fn, tmps, assign, body, hy, hR⟩ := HY.out _ X wb HIb.out HLb.out HOK1.out
              have HR := Keep.mk hR
              clear hyb hb2 hb3 hR HIk HLk'
              gi_wp2
              refine HR.out.mono ?_
              clear HR hy y0 y1 y2 y3 yl hac hal HIb HLb HDE HIP
              rintro e W3 (⟨rfl, hI3, hL3, -⟩ | ⟨rfl, hx3⟩)
              · have HI3 := Keep.mk hI3
                have HL3 := Keep.mk hL3
                clear hI3 hL3
                gi_wp2
                go_roundw
                case rel =>
                  refine ⟨k + 1, .inr (by have := HF.out; omega), by go_num, ?_, HL3⟩
                  rw [HC.out.2, List.range_succ, List.map_append, ← List.append_assoc]
                  have := HI3
                  rw [HX.out] at this
                  exact this
                case measure => simp [intOf]; omega
              · gi_wp2
                refine bodyPost_ret (results_none rfl _ _ _) rfl ?_
                exact ⟨⟨_, rfl⟩, .inr ⟨_, hx3⟩⟩
            · have HIP : Keep (∀ w, Calls Tryz.prog 7 #[.string s, .int .i64 k] w fun e w' => e = .returned (.bool false) ∧ w' = w) := ⟨fun w => by
                have := isPlain_any s k (by unfold maxLen; omega) (by omega) w
                rw [HGP.out.pl k hfit, decide_eq_false hq] at this
                exact this⟩
              have HC : Keep ((k + 1 + 767) / 768 = (k + 767) / 768) := ⟨by omega⟩
              have hk1 : k < s.size := by omega
              have HF := Keep.mk hfit
              clear hk hq hfit
              gi_wp2_with (refine ⟨trivial, ?_⟩; gi_at_call 7; refine (callsIn_wide.2 (HIP.out _)).mono ?_; rintro e w' ⟨rfl, rfl⟩)
              go_roundw
              case rel => exact ⟨k + 1, .inr (by have := HF.out; omega), by go_num, by rw [HC.out]; exact HIk, HLk'⟩
              case measure => simp [intOf]; omega
          · have q0 : ¬ (k : Int) + 768 ≤ s.size := by omega
            have HC : Keep ((k + 767) / 768 = n) := ⟨by have := HZ.out; omega⟩
            have hkb : k ≤ 100000 := by omega
            clear hk hfit
            gi_wp2
            go_roundw
            case rel => exact ⟨j + 1, by omega, by go_num, by rw [HTK.out, ← HC.out]; exact HIk, HLk'⟩
            case measure => simp [intOf]; omega
      · obtain rfl : j = ps.length := by omega
        gi_wp2
        go_end0
        refine ⟨⟨_, rfl⟩, .inl ⟨_, ?_, HIr.out, HLr.out⟩⟩
        rw [List.take_of_length_le (Nat.le_refl _)]
  case done =>
    rintro D xs W hD hxs hI hK
    have htt := hI.tt.cell
    have hb := Keep.mk hI.bel
    have HI := Keep.mk hI
    have HK := Keep.mk hK
    clear hI hK
    by_cases hx : xs = []
    · rw [show totB tot xs = 0 from if_pos hx] at htt
      have hc4 := HI.out.r4.cell
      have hc5 := HI.out.r5.cell
      have hc6 := HI.out.r6.cell
      have hf4 := HI.out.r4.frozen
      have hf5 := HI.out.r5.frozen
      have hf6 := HI.out.r6.frozen
      have hl4 := HI.out.r4.lt
      have hl5 := HI.out.r5.lt
      have hl6 := HI.out.r6.lt
      have n45 : w.heap.size ≠ b5 := boxed_ne HI.out.r4 HI.out.r5 (by decide)
      have n46 : w.heap.size ≠ b6 := boxed_ne HI.out.r4 HI.out.r6 (by decide)
      have n56 : b5 ≠ b6 := boxed_ne HI.out.r5 HI.out.r6 (by decide)
      have n54 := n45.symm
      have n64 := n46.symm
      have n65 := n56.symm
      gi_wp2
      have HZ := load_close (u4 := .string ⟨#[]⟩) (u5 := .slice none 0 0) (u6 := .int .i64 9) (W0 := w) HI.out HK.out (by omega) H50 H60
      generalize (((W.setCell ⟨w.heap.size, 0, none⟩ (.string ⟨#[]⟩)).setCell ⟨b5, 0, none⟩ (.slice none 0 0)).setCell ⟨b6, 0, none⟩ (.int .i64 9)) = wf at *
      obtain ⟨z4, z5, z6, zb, zk⟩ := HZ
      refine ⟨by simp, .inl ⟨_, _, rfl, run_takeDeferred zk, ?_⟩⟩
      generalize wf.putObj D (.deferred none) = wg at *
      refine ⟨.tuple #[.string ⟨#[]⟩, .slice none 0 0, .int .i64 9], by simp [results, Tryz.results9, go_sem, z4, z5, z6], ?_⟩
      refine ⟨zb, ?_⟩
      rw [← hxs, if_pos hx]
    · rw [show totB tot xs = tot from if_neg hx] at htt
      have hb7l := HI.out.tt.lt
      have ht1 : ((tot : Int) == 0) = false := by have := fsOf_tot hg (by rw [← hxs]; exact hx); simp; omega
      obtain ⟨i0, hi, hz0, hz1, hz2⟩ := info_parts Tryz.infoInt
      have HL0 := Keep.mk (LmIn.start W T xs)
      have HXS := Keep.mk hxs
      have HXN := Keep.mk hx
      clear hxs hx
      gi_upto_region 11 with (fail)
      generalize (W.alloc (.cells #[.pointer none, .slice none 0 0] 56)) = wB at *
      have HWl : Keep (w.heap.size ≤ W.heap.size) := ⟨HI.out.bel.size⟩
      have htt : wB.cell? ⟨b7, 0, none⟩ = some (.int .i64 tot) := (HL0.out.bel.cell (p := ⟨b7, 0, none⟩) hb7l).trans htt
      have hb7l : b7 < wB.heap.size := Nat.lt_of_lt_of_le hb7l HL0.out.bel.size
      gi_wp2
      clear htt hb7l ht1
      gi_loopw [13, 56] (fun mv i wr => ∃ k : Nat, k ≤ tot ∧ i = .int .i64 k ∧ Keep (LmIn W T xs k k mv wr)) (fun _ i _ => tot - (intOf i).toNat)
      case atStart => exact ⟨0, Nat.zero_le _, rfl, HL0⟩
      case round =>
        obtain ⟨k, hk, rfl, HLm⟩ := hrel
        by_cases hlt : k < tot
        · have k0 : (k : Int) < tot := by omega
          have hc8 := (HLm.out.bel.cell (p := ⟨b8, 0, none⟩) HI.out.tx.lt).trans HI.out.tx.cell
          have hl8 : b8 < wr.heap.size := Nat.lt_of_lt_of_le HI.out.tx.lt HLm.out.bel.size
          have hlk := (HI.out.mp.block (HLm.out.bel.block M HI.out.mp.lt')).look Tryz.underlying66 (z := .string ⟨#[]⟩) (fun w => by kernel_rfl) (k : Int) true
          rw [show kInt.kv (k : Int) = .int .i64 k from rfl, if_pos rfl, look_mapT] at hlk
          have HTL := Keep.mk (textOf_length T xs (pieceT_le T) k)
          have HPL := Keep.mk (pieceT_le T k)
          have HNW : Keep (W.heap.size < wr.heap.size) := ⟨HLm.out.lt⟩
          by_cases hm : k ∈ xs
          · simp only [if_pos hm, Option.getD_some, Option.isSome_some] at hlk
            have HST : Keep (textOf T xs (k + 1) = textOf T xs k ++ (pieceT T k).data.toList) := ⟨by rw [textOf_step, if_pos hm]⟩
            have HM := Keep.mk hm
            clear hm
            gi_wp2_with (refine ⟨trivial, ?_⟩; gi_at_call 16; refine (callsIn_wide.2 (writeString_any W.heap.size W.heap.size _ _ _ HLm.out.hb (by have := HTL.out; have := HPL.out; omega) (by have := HNW.out; omega))).mono ?_; rintro e w' ⟨rfl, h1, h2, h3⟩)
            go_roundw
            case rel => exact ⟨k + 1, by omega, by go_num, ⟨(HLm.out.next HM.out).write (by rw [HST.out]; exact h1) h2 h3⟩⟩
            case measure => simp [intOf]; omega
          · simp only [if_neg hm, Option.getD_none, Option.isSome_none] at hlk
            have HST : Keep (textOf T xs (k + 1) = textOf T xs k ++ (⟨#[]⟩ : ByteArray).data.toList) := ⟨by rw [textOf_step, if_neg hm]⟩
            have HM := Keep.mk hm
            have HMLn := Keep.mk (missL_length k xs)
            clear hm
            gi_upto_region 18 with (gi_at_builtin; refine wpListIn_append_own _ rfl _ _ 30 rfl W.heap.size 3 i0 (.int .i64 0) 1 8 Tryz.underlying30 hi hz0 hz1 hz2 rfl (by decide) _ _ _ rfl (World.ownsRow.alloc HLm.out.row _) ⟨wr.heap.size, 0, none⟩ 1 1 [.int .i64 k] rfl rfl (cell_one_new _ _ _) (by simp [Value.oneCell']) (by have := HMLn.out; unfold maxLen; omega) (by have := HMLn.out; omega) (by have := HNW.out; simp; omega) ?_; intro v' w9 hown' hgrow _; have H9 := Keep.mk ((HLm.out.alloc _).app HM.out hown' hgrow); clear hown' hgrow)
            have HN9 : Keep (W.heap.size < w9.heap.size) := ⟨H9.out.lt⟩
            gi_wp2_with (refine ⟨trivial, ?_⟩; gi_at_call 16; refine (callsIn_wide.2 (writeString_any W.heap.size W.heap.size _ _ _ H9.out.hb (by have := HTL.out; show _ + 0 ≤ _; omega) (by have := HN9.out; omega))).mono ?_; rintro e w' ⟨rfl, h1, h2, h3⟩)
            go_roundw
            case rel => exact ⟨k + 1, by omega, by go_num, ⟨H9.out.write (by rw [HST.out]; exact h1) h2 h3⟩⟩
            case measure => simp [intOf]; omega
        · obtain rfl : k = tot := by omega
          have HMS := Keep.mk (missL_length k xs)
          have HNW : Keep (W.heap.size < wr.heap.size) := ⟨HLm.out.lt⟩
          have HIr := Keep.mk (HI.out.keep (HLm.out.bel.mono HWl.out) (fun b hb _ => HLm.out.bel.block b hb))
          have HKr : Keep (wr.heap[D]? = some (.deferred (some []))) := ⟨(HLm.out.bel.block D (Array.getElem?_eq_some_iff.1 HK.out).1).trans HK.out⟩
          clear htt
          have HLO : Keep (∀ b, b = w.heap.size ∨ b = b5 ∨ b = b6 ∨ b = b7 ∨ b = b8 ∨ b = M ∨ b = bA → b < W.heap.size) := ⟨by
            have h4 := HI.out.r4.lt
            have h5 := HI.out.r5.lt
            have h6 := HI.out.r6.lt
            have h7 := HI.out.tt.lt
            have h8 := HI.out.tx.lt
            have hM := HI.out.mp.lt'
            have hA := HI.out.ar.lt
            rintro b (rfl | rfl | rfl | rfl | rfl | rfl | rfl) <;> assumption⟩
          by_cases hm : missL k xs = []
          · have hmi : ¬ (0 : Int) < ((missL k xs).length : Int) := by rw [hm]; decide
            have hrow := HLm.out.row
            obtain ⟨ra, rc, rfl⟩ := ownsRow_slice hrow
            have HTX : Keep ((⟨(textOf T xs k).toArray⟩ : ByteArray) = mkS (textTo T k)) := ⟨by rw [textOf_all T xs k hm]; rfl⟩
            have HB := HLm.out.hb
            unfold Holds at HB
            have HSB := Keep.mk (Tryz.Builder_String_any W.heap.size W.heap.size _ wr HB (by have := HNW.out; omega))
            rw [HTX.out] at HSB
            have HM := Keep.mk hm
            clear hrow HB hm
            gi_wp2_with (refine ⟨trivial, ?_⟩; gi_at_call 17; refine (callsIn_wide.2 HSB.out).mono ?_; rintro e we ⟨rfl, hbe⟩; have HIe := Keep.mk (HIr.out.keep (hbe.mono HWl.out) (fun b _ hb => hbe.block b (HLO.out b hb))); have HKe : Keep (we.heap[D]? = some (.deferred (some []))) := ⟨(hbe.block D (Array.getElem?_eq_some_iff.1 HK.out).1).trans HKr.out⟩; clear hbe; have hc4 := HIe.out.r4.cell; have hc5 := HIe.out.r5.cell; have hc6 := HIe.out.r6.cell; have hf4 := HIe.out.r4.frozen; have hf5 := HIe.out.r5.frozen; have hf6 := HIe.out.r6.frozen; have hl4 := HIe.out.r4.lt; have hl5 := HIe.out.r5.lt; have hl6 := HIe.out.r6.lt; have n45 : w.heap.size ≠ b5 := boxed_ne HIe.out.r4 HIe.out.r5 (by decide); have n46 : w.heap.size ≠ b6 := boxed_ne HIe.out.r4 HIe.out.r6 (by decide); have n56 : b5 ≠ b6 := boxed_ne HIe.out.r5 HIe.out.r6 (by decide); have n54 := n45.symm; have n64 := n46.symm; have n65 := n56.symm)
            have HZ := load_close (u4 := .string (mkS (textTo T k))) (u5 := .slice none 0 0) (u6 := .int .i64 0) (W0 := w) HIe.out HKe.out (by omega) H50 H60
            generalize (((we.setCell ⟨w.heap.size, 0, none⟩ (.string (mkS (textTo T k)))).setCell ⟨b5, 0, none⟩ (.slice none 0 0)).setCell ⟨b6, 0, none⟩ (.int .i64 0)) = wf at *
            obtain ⟨z4, z5, z6, zb, zk⟩ := HZ
            refine ⟨by simp, .inl ⟨_, _, rfl, run_takeDeferred zk, ?_⟩⟩
            generalize wf.putObj D (.deferred none) = wg at *
            refine ⟨.tuple #[.string (mkS (textTo T k)), .slice none 0 0, .int .i64 0], by simp [results, Tryz.results9, go_sem, z4, z5, z6], ?_⟩
            refine ⟨zb, ?_⟩
            rw [← HXS.out, if_neg HXN.out, if_pos HM.out]
          · have hml : 0 < (missL k xs).length := List.length_pos_iff.2 hm
            have hrow := HLm.out.row
            obtain ⟨ra, rc, rfl⟩ := ownsRow_slice hrow
            have HRW := Keep.mk hrow
            have hmi : (0 : Int) < ((missL k xs).length : Int) := by omega
            clear hrow
            have hc4 := HIr.out.r4.cell
            have hc5 := HIr.out.r5.cell
            have hc6 := HIr.out.r6.cell
            have hf4 := HIr.out.r4.frozen
            have hf5 := HIr.out.r5.frozen
            have hf6 := HIr.out.r6.frozen
            have hl4 := HIr.out.r4.lt
            have hl5 := HIr.out.r5.lt
            have hl6 := HIr.out.r6.lt
            have n45 : w.heap.size ≠ b5 := boxed_ne HIr.out.r4 HIr.out.r5 (by decide)
            have n46 : w.heap.size ≠ b6 := boxed_ne HIr.out.r4 HIr.out.r6 (by decide)
            have n56 : b5 ≠ b6 := boxed_ne HIr.out.r5 HIr.out.r6 (by decide)
            have n54 := n45.symm
            have n64 := n46.symm
            have n65 := n56.symm
            gi_wp2
            have hbl := HI.out.r4.lt
            have hbl5 := HI.out.r5.lt
            have hbl6 := HI.out.r6.lt
            have HZ := load_close (u4 := .string ⟨#[]⟩) (u5 := .slice ra (missL k xs).length rc) (u6 := .int .i64 19) (W0 := w) HIr.out HKr.out (by omega) H50 H60
            have HR3 := Keep.mk (ownsRow_setCell_below (ownsRow_setCell_below (ownsRow_setCell_below HRW.out (a := ⟨w.heap.size, 0, none⟩) hbl (.string ⟨#[]⟩)) (a := ⟨b5, 0, none⟩) hbl5 (.slice ra (missL k xs).length rc)) (a := ⟨b6, 0, none⟩) hbl6 (.int .i64 19))
            generalize (((wr.setCell ⟨w.heap.size, 0, none⟩ (.string ⟨#[]⟩)).setCell ⟨b5, 0, none⟩ (.slice ra (missL k xs).length rc)).setCell ⟨b6, 0, none⟩ (.int .i64 19)) = wf at *
            obtain ⟨z4, z5, z6, zb, zk⟩ := HZ
            have HR4 := Keep.mk (ownsRow_putObj HR3.out (.deferred none) zk rfl)
            refine ⟨by simp, .inl ⟨_, _, rfl, run_takeDeferred zk, ?_⟩⟩
            generalize wf.putObj D (.deferred none) = wg at *
            refine ⟨.tuple #[.string ⟨#[]⟩, .slice ra (missL k xs).length rc, .int .i64 19], by simp [results, Tryz.results9, go_sem, z4, z5, z6], ?_⟩
            refine ⟨zb, ?_⟩
            rw [← HXS.out, if_neg HXN.out, if_neg hm]
            exact ⟨_, rfl, ownsRow_base HR4.out HWl.out⟩
  case stop =>
    rintro D c pre W _ h _
    exact h.elim
end Go.Proofs.YtojgopbaiflfgaaGreatDoor
