/- strings.Trim of a text all of whose signs are cut off. Condition: bounds on lengths. cells.Check and cells.Unreadable of readable cells. Condition: bounds on lengths. -/
import Derived.Test.YtojgopbaiflfgaaGreatDoorTpCells
namespace Go.Proofs.YtojgopbaiflfgaaGreatDoor
set_option maxRecDepth 100000
open Go.RowKit Go.Shelf

def sizeOfV : Value → Nat
  | .string x => x.size
  | _ => 0
theorem extract_mem {x : ByteArray} {i j : Nat} {c : UInt8} (h : c ∈ (x.extract i j).data.toList) : c ∈ x.data.toList := by
  rw [ByteArray.data_extract, Array.toList_extract] at h
  simp only [List.extract] at h
  exact List.mem_of_mem_drop (List.mem_of_mem_take h)
theorem ba_empty {x : ByteArray} (h : x.size = 0) : x = ⟨#[]⟩ := by
  obtain ⟨⟨l⟩⟩ := x
  have : l = [] := List.eq_nil_of_length_eq_zero h
  rw [this]
theorem ba_mem (x : ByteArray) (i : Nat) (h : i < x.size) : x[i] ∈ x.data.toList := by
  have : x.data.toList[i]? = some x[i] := by rw [List.getElem?_eq_getElem (by simpa using h)]; rfl
  exact List.mem_of_getElem? this
set_option maxHeartbeats 4000000 in
theorem trimRight_all (b : Nat) (w : World) (s : ByteArray) (hs : s.size ≤ maxLen) (hset : ∀ c ∈ s.data.toList, w.cell? ⟨b, c.toNat, none⟩ = some (.bool true)) :
    Calls Tryz.prog 71 #[.string s, .pointer (some ⟨b, 0, none⟩)] w fun e w' => e = .returned (.string ⟨#[]⟩) ∧ w' = w := by
  unfold maxLen at hs
  have HS := Keep.mk hset
  clear hset
  go_enter Tryz.func71, Tryz.ntmps71
  go_wp2_with fail
  go_loop [0] (fun v => ∃ x : ByteArray, v = .string x ∧ x.size ≤ s.size ∧ Keep (∀ c ∈ x.data.toList, w.cell? ⟨b, c.toNat, none⟩ = some (.bool true))) (fun v => sizeOfV v)
  case atStart => exact ⟨s, rfl, Nat.le_refl _, HS⟩
  case round =>
    obtain ⟨x, rfl, hx, HX⟩ := hrel
    by_cases h0 : x.size = 0
    · have HE : Keep (x = ⟨#[]⟩) := ⟨ba_empty h0⟩
      have h1 : ¬ (0 : Int) < (x.size : Int) := by omega
      go_wp2_with fail
      go_ret
      exact ⟨by rw [HE.out]; rfl, rfl⟩
    · obtain ⟨n, hn⟩ : ∃ n, x.size = n + 1 := ⟨x.size - 1, by omega⟩
      have h1 : (0 : Int) < (x.size : Int) := by omega
      have h2 : IntKind.i64.wrap ((x.size : Int) - 1) = (n : Int) := by rw [IntWalk.i64_in _ (by omega)]; omega
      have h3 : (0 : Int) ≤ n := by omega
      have h4 : (n : Int) < x.size := by omega
      have h5 : n < x.size := by omega
      have h6 : (n : Int) ≤ x.size := by omega
      have HC := Keep.mk (Tryz.asciiSet_contains b (x[n]) true w (HX.out _ (ba_mem x n h5)))
      have HN := Keep.mk hn
      clear hn h0
      go_wp2_with fail
      refine HC.out.mono ?_
      rintro _ w2 ⟨rfl, rfl⟩
      go_wp2_with fail
      go_round
      case rel => exact ⟨x.extract 0 n, rfl, by simp [ByteArray.size_extract]; omega, ⟨fun c hc => HX.out c (extract_mem hc)⟩⟩
      case measure => simp [sizeOfV, ByteArray.size_extract]; omega
theorem trimLeft_empty (b : Nat) (w : World) : Calls Tryz.prog 70 #[.string ⟨#[]⟩, .pointer (some ⟨b, 0, none⟩)] w fun e w' => e = .returned (.string ⟨#[]⟩) ∧ w' = w := by
  go_enter Tryz.func70, Tryz.ntmps70
  go_wp2_with fail
  refine wp_loop_rounds 1 ?_
  rw [rounds_succ]
  go_wp2_with fail
  go_ret
  exact ⟨rfl, rfl⟩
theorem setCells_mem (l : List UInt8) (c : UInt8) (h : c ∈ l) : (Lib.setCells l)[c.toNat]? = some (.bool true) := by
  have hz : ∀ (l : List UInt8) (a : Array Value), (l.foldl (fun a c => a.setIfInBounds c.toNat (.bool true)) a).size = a.size := by
    intro l
    induction l with
    | nil => intro a; rfl
    | cons x l ih => intro a; rw [List.foldl_cons, ih]; simp
  have keep : ∀ (l : List UInt8) (a : Array Value), a[c.toNat]? = some (.bool true) → (l.foldl (fun a c => a.setIfInBounds c.toNat (.bool true)) a)[c.toNat]? = some (.bool true) := by
    intro l
    induction l with
    | nil => intro a h; exact h
    | cons x l ih =>
      intro a h
      rw [List.foldl_cons]
      refine ih _ ?_
      by_cases e : x.toNat = c.toNat
      · rw [e, Array.getElem?_setIfInBounds_self]
        rw [if_pos (Array.getElem?_eq_some_iff.1 h).1]
      · rw [Array.getElem?_setIfInBounds_ne e]
        exact h
  have go : ∀ (l : List UInt8) (a : Array Value), a.size = 256 → c ∈ l → (l.foldl (fun a c => a.setIfInBounds c.toNat (.bool true)) a)[c.toNat]? = some (.bool true) := by
    intro l
    induction l with
    | nil => intro a _ h; cases h
    | cons x l ih =>
      intro a ha h
      rw [List.foldl_cons]
      rcases List.mem_cons.1 h with rfl | h
      · refine keep l _ ?_
        rw [Array.getElem?_setIfInBounds_self, if_pos (by rw [ha]; exact c.toNat_lt)]
      · exact ih _ (by simpa using ha) h
  exact go l _ (by simp) h
theorem setCells_size (l : List UInt8) : (Lib.setCells l).size = 256 ∧ ∀ v ∈ Lib.setCells l, v.oneCell' = true := by
  have go : ∀ (l : List UInt8) (a : Array Value), a.size = 256 → (∀ v ∈ a, v.oneCell' = true) → (l.foldl (fun a c => a.setIfInBounds c.toNat (.bool true)) a).size = 256 ∧ ∀ v ∈ l.foldl (fun a c => a.setIfInBounds c.toNat (.bool true)) a, v.oneCell' = true := by
    intro l
    induction l with
    | nil => intro a h1 h2; exact ⟨h1, h2⟩
    | cons x l ih =>
      intro a h1 h2
      rw [List.foldl_cons]
      refine ih _ (by simpa using h1) (fun v hv => ?_)
      rcases Array.mem_or_eq_of_mem_setIfInBounds hv with hv | rfl
      · exact h2 v hv
      · rfl
  exact go l _ (by simp) (fun v hv => by rw [Array.mem_replicate] at hv; rw [hv.2]; rfl)
set_option maxHeartbeats 4000000 in
theorem trim_all (s cut : ByteArray) (w : World) (hs : s.size ≤ 1000000000) (hc : 2 ≤ cut.size) (hc2 : cut.size ≤ 1000000) (hascii : ∀ c ∈ cut.data.toList, c.toNat < 128) (hall : ∀ c ∈ s.data.toList, c ∈ cut.data.toList) :
    Calls Tryz.prog 53 #[.string s, .string cut] w fun e w' => e = .returned (.string ⟨#[]⟩) ∧ Below w.heap.size w w' := by
  by_cases h0 : s = ⟨#[]⟩
  · subst h0
    go_enter Tryz.func53, Tryz.ntmps53
    go_wp2_with fail
    go_ret
    exact ⟨rfl, Below.refl _ _⟩
  · have q1 : (s.toList == []) = false := by rw [eqsT s (k := ⟨#[]⟩) (by decide +kernel), decide_eq_false h0]
    have q2 : (cut.toList == []) = false := by rw [eqsT cut (k := ⟨#[]⟩) (by decide +kernel), decide_eq_false (fun e => by rw [e] at hc; exact absurd hc (by decide))]
    have q3 : ((cut.size : Int) == 1) = false := by rw [beq_eq_false_iff_ne]; omega
    have HM := Keep.mk (Tryz.strings_makeASCIISet (fun w => by kernel_rfl) cut w (by omega) (fun j b hj => hascii b (List.mem_of_getElem? hj)))
    have HA := Keep.mk hall
    clear h0 hall hascii
    go_enter Tryz.func53, Tryz.ntmps53
    go_wp2_with fail
    refine HM.out.mono ?_
    rintro _ w2 ⟨rfl, rfl⟩
    obtain ⟨xs, hxs⟩ : ∃ xs, Lib.setCells cut.data.toList = List.toArray xs := ⟨_, (Array.toArray_toList).symm⟩
    have hset : ∀ c ∈ s.data.toList, xs[c.toNat]? = some (.bool true) := fun c hc => by
      have h := setCells_mem _ c (HA.out c hc)
      rw [hxs] at h
      simpa using h
    have hx2 := setCells_size cut.data.toList
    rw [hxs] at hx2 ⊢
    have HSET := Keep.mk hset
    have HX1 : Keep (xs.length = 256) := ⟨by simpa using hx2.1⟩
    have HX2 : Keep (∀ v ∈ xs, v.oneCell' = true) := ⟨fun v hv => hx2.2 v (by simpa using hv)⟩
    clear hset HM hxs hx2
    have HZC : Keep (Tryz.zeroCells123 = (List.replicate 256 (Value.bool false)).toArray) := ⟨by kernel_rfl⟩
    have HIN : Keep ((Tryz.prog.info? 123).map (·.size) = some 256) := ⟨by kernel_rfl⟩
    have HB1 : Keep (Below w.heap.size w (w.alloc (.cells xs.toArray 123))) := ⟨(Below.refl _ _).alloc (Nat.le_refl _) _⟩
    have hsz1 : (w.alloc (.cells xs.toArray 123)).heap.size = w.heap.size + 1 := World.size_alloc ..
    have HSZ := Keep.mk hsz1
    generalize (w.alloc (.cells xs.toArray 123)) = w1 at *
    clear hsz1
    go_upto_region 6 with (refine wpList_store_arr (o := ⟨none, _, _, _, _, _⟩) rfl 123 _ _ rfl w1.heap.size _ (List.replicate 256 (Value.bool false)) xs rfl rfl (by unfold Arr; rw [← HZC.out]; exact heap_alloc_new w1 _) (by rw [HX1.out]; exact HIN.out) (by rw [HX1.out]; simp) HX2.out ?_; intro w3 hA3 hg3; have H3 := Keep.mk (And.intro hA3 ((HB1.out.alloc HB1.out.size _).grown hg3 (by have := HB1.out.size; simp; omega) (fun _ h => by cases h; exact HB1.out.size))); clear hA3 hg3)
    have HR := Keep.mk (trimRight_all w1.heap.size w3 s (by unfold maxLen; omega) (fun c hc => by rw [H3.out.1.cell]; exact HSET.out c hc))
    go_wp2_with fail
    refine HR.out.mono ?_
    rintro _ w4 ⟨rfl, rfl⟩
    go_wp2_with fail
    refine (trimLeft_empty w1.heap.size _).mono ?_
    rintro _ w5 ⟨rfl, rfl⟩
    go_wp2_with fail
    go_ret
    exact ⟨rfl, H3.out.2⟩

/-- Readable cells. -/
def Clear (s : ByteArray) : Prop := ∀ c ∈ s.data.toList, c = 48 ∨ c = 49
theorem cellsB_clear {b c : UInt8} (h : c ∈ cellsB b) : c = 48 ∨ c = 49 := by
  unfold cellsB at h
  obtain ⟨k, _, rfl⟩ := List.mem_map.1 h
  have h1 := bitC_toNat b k
  have h2 : b.toNat / 2 ^ (7 - k) % 2 = 0 ∨ b.toNat / 2 ^ (7 - k) % 2 = 1 := by omega
  rcases h2 with h2 | h2
  · left
    apply UInt8.toNat_inj.1
    rw [h1, h2]; rfl
  · right
    apply UInt8.toNat_inj.1
    rw [h1, h2]; rfl
theorem cellsL_clear {l : List UInt8} {c : UInt8} (h : c ∈ cellsL l) : c = 48 ∨ c = 49 := by
  unfold cellsL at h
  obtain ⟨b, _, hb⟩ := List.mem_flatMap.1 h
  exact cellsB_clear hb
def cut3 : ByteArray := ⟨#[48, 49, 63]⟩
theorem check_clear (s : ByteArray) (w : World) (hs : s.size ≤ 1000000000) (h : Clear s) : Calls Tryz.prog 59 #[.string s] w fun e w' => e = .returned (.int .i64 0) ∧ Below w.heap.size w w' := by
  have HT := Keep.mk (trim_all s cut3 w hs (by decide) (by decide) (by decide) (fun c hc => by rcases h c hc with rfl | rfl <;> decide))
  go_enter Tryz.func59, Tryz.ntmps59
  go_wp2_with fail
  refine HT.out.mono ?_
  rintro _ w2 ⟨rfl, hb⟩
  go_wp2_with fail
  go_ret
  exact ⟨rfl, hb⟩
theorem unreadable_clear (s : ByteArray) (w : World) (h : Clear s) : Calls Tryz.prog 60 #[.string s] w fun e w' => e = .returned (.int .i64 0) ∧ w' = w := by
  have h0 : Lib.countByte s.data.toList 63 = 0 := by
    unfold Lib.countByte
    rw [List.count_eq_zero]
    intro hm
    rcases h _ hm with e | e <;> exact absurd e (by decide)
  have HT := Keep.mk (Tryz.strings_Count_one s 63 w)
  rw [h0] at HT
  go_enter Tryz.func60, Tryz.ntmps60
  go_wp2_with fail
  refine HT.out.mono ?_
  rintro _ w2 ⟨rfl, rfl⟩
  go_wp2_with fail
  go_ret
  exact ⟨rfl, rfl⟩
end Go.Proofs.YtojgopbaiflfgaaGreatDoor
