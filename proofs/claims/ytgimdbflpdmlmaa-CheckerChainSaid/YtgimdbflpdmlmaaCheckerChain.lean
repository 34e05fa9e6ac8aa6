/- CheckerChain: a chain of functions, each of which calls the previous one, is valid if and only if its length is at most 60. No condition. -/
import Derived.Test.YtgimdbflpdmlmaaCkChain
import Derived.Test.YtgimdbflpdmlmaaCkChainName
import Derived.Test.YtgimdbflpdmlmaaCkChainStep
import Derived.Test.YtgimdbflpdmlmaaLaw
import Derived.Test.YtgimdbflpdmlmaaOpenSlice
import Derived.BigRegion
import Derived.Deep.RegionHeld3
import Derived.IntWalk
namespace Go.Proofs.Ytgimdbflpdmlmaa
set_option maxRecDepth 100000
open Go.RowKit Go.Shelf Go.Proofs.Ytgimdbflpdmlmaa.Ck Go.ChangeShapes Go.WideShapes Go.ChangeAt

theorem repeatL_a (q : Nat) : Lib.repeatL (⟨#[97]⟩ : ByteArray).data.toList q = List.replicate q 97 := by
  induction q with
  | zero => rfl
  | succ k ih => rw [Lib.repeatL, ih, List.replicate_succ]; rfl
theorem repeat_a {q : Nat} (hq : q ≤ 6) (wx : World) : Calls Try.prog 25 #[.string ⟨#[97]⟩, .int .i64 (q : Int)] wx fun e w' => e = .returned (.string (mkS (List.replicate q 97))) ∧ Below wx.heap.size wx w' := by
  have := repeat_any ⟨#[97]⟩ (q : Int) wx (by omega) (by rw [Int.toNat_natCast, show (⟨#[97]⟩ : ByteArray).size = 1 from rfl]; omega) (by omega)
  rw [Int.toNat_natCast, repeatL_a] at this
  exact this
set_option maxHeartbeats 8000000 in
theorem checkerChain_any (n : Nat) (w : World) (hn : n ≤ 255) :
    Calls Try.prog 9 #[.int .u8 n] w fun e w' => e = .returned (.bool true) ∧ Below w.heap.size w w' := by
  go_enter Try.func9, Try.ntmps9
  go_wp2_with fail
  refine (alive_any w).mono ?_
  rintro _ w1 ⟨rfl, hb1⟩
  have HB1 := Keep.mk hb1
  clear hb1
  have hA : (n : Int).tmod 120 = ((n % 120 : Nat) : Int) := rfl
  have hk8 : n % 120 < 120 := Nat.mod_lt _ (by omega)
  have hK : (1 : Int) + (n : Int) % 120 = ((1 + n % 120 : Nat) : Int) := by omega
  have hK2 : (1 : Int) + (n : Int).tmod 120 = ((1 + n % 120 : Nat) : Int) := by rw [hA]; omega
  have hk1 : 1 ≤ 1 + n % 120 := by omega
  have hk9 : 1 + n % 120 ≤ 120 := by omega
  generalize 1 + n % 120 = k at *
  clear hA hk8
  go_upto_region 5 with (fail)
  obtain ⟨P, hP⟩ : ∃ P, P = w1.heap.size := ⟨_, rfl⟩
  have ha1 : Below w1.heap.size w1 (w1.alloc (.cells #[.slice none 0 0, .slice none 0 0, .slice none 0 0] 26)) := (Below.refl _ _).alloc (Nat.le_refl _) _
  have he1 := heap_alloc_new w1 (.cells #[.slice none 0 0, .slice none 0 0, .slice none 0 0] 26)
  have hw1 := HB1.out.trans (ha1.mono HB1.out.size)
  have hwP : w.heap.size ≤ P := by rw [hP]; exact HB1.out.size
  rw [← hP] at he1 ⊢
  have HS5 : Keep (ChSt w (w1.alloc (.cells #[.slice none 0 0, .slice none 0 0, .slice none 0 0] 26)) P k 0 (.slice none 0 0)) := ⟨⟨hw1, hwP, he1, [], World.ownsRow_nil _ _ _ _, rfl⟩⟩
  clear ha1 he1 hw1 HB1 hP hK hK2
  generalize (w1.alloc (.cells #[.slice none 0 0, .slice none 0 0, .slice none 0 0] 26)) = w5 at *
  obtain ⟨i0, hi, hz0, hz1, hz2⟩ := info_parts Try.infoFunc
  go_wp2_with fail
  go_loopw [16] (fun s wr => ∃ (x : Nat) (v : Value), x ≤ k ∧ s = .int .i64 x ∧ Keep (ChSt w wr P k x v)) (fun s _ => k - (intOf s).toNat)
  case atStart => exact ⟨0, _, Nat.zero_le _, rfl, HS5⟩
  case round =>
    obtain ⟨x, v, hx, rfl, HSr⟩ := hrel
    clear HS5
    by_cases hlt : x < k
    · have k1 : (x : Int) < (k : Int) := by omega
      go_upto_region 8 with (fail)
      have hD : (x : Int).tdiv 20 = ((x / 20 : Nat) : Int) := rfl
      have hD2 : (x : Int) / 20 = ((x / 20 : Nat) : Int) := rfl
      have hM : (x : Int).tmod 20 = ((x % 20 : Nat) : Int) := rfl
      have hM2 : (x : Int) % 20 = ((x % 20 : Nat) : Int) := rfl
      have hq : x / 20 ≤ 6 := by omega
      have hr : x % 20 < 20 := Nat.mod_lt _ (by omega)
      have hnm : nmC x = ⟨#[102]⟩ ++ mkS (List.replicate (x / 20) 97) ++ ⟨#[UInt8.ofNat (97 + x % 20)]⟩ := rfl
      have hbyte : ((UInt8.ofNat (97 + x % 20)).toNat : Int) = 97 + ((x % 20 : Nat) : Int) := by
        have : (UInt8.ofNat (97 + x % 20)).toNat = (97 + x % 20) % 256 := UInt8.toNat_ofNat'
        omega
      generalize UInt8.ofNat (97 + x % 20) = c at *
      generalize x / 20 = q at *
      generalize x % 20 = r at *
      have HNM := Keep.mk hnm
      have HBY := Keep.mk hbyte
      clear hnm hbyte
      go_cut [6] from 19 to 31 (fun v wx => FnBox wr wx (nmC x) (.slice none 0 0) v)
      case first =>
        have m1 : IntKind.i64.wrap (q : Int) = q := IntWalk.i64_in _ (by omega)
        have m2 : IntKind.i64.wrap (r : Int) = r := IntWalk.i64_in _ (by omega)
        have m3 : IntKind.i64.wrap (97 + (r : Int)) = 97 + r := IntWalk.i64_in _ (by omega)
        have m4 : IntKind.u8.wrap (97 + (r : Int)) = 97 + r := by simp [IntKind.wrap, IntKind.signed, IntKind.bits]; omega
        have hrep := Keep.mk (fun wx : World => repeat_a hq wx)
        have hS : (mkS (List.replicate q 97)).size = q := by rw [size_mkS, List.length_replicate]
        have HS := Keep.mk hS
        have s1 : ¬ 9223372036854775807 < 1 + (mkS (List.replicate q 97)).size := by omega
        have s2 : ¬ 9223372036854775807 < 1 + (mkS (List.replicate q 97)).size + 1 := by omega
        clear hS
        generalize mkS (List.replicate q 97) = S at *
        apply wp_region_inv13 (P := Try.prog) u19 u20 u21 u22 u23 u24 u25 u26 u27 u28 u29 u30 u6 (Nm8 wr x q r S (nmC x) c)
        · kernel_rfl
        · kernel_rfl
        · exact Nm8.zero ..
        · refine ⟨?_, ?_, ?_, ?_, ?_, ?_, ?_, ?_, ?_, ?_, ?_, ?_, ?_, ?_, trivial⟩
          · intro L v0 v1 v2 v3 v4 v5 v6 v7 v8 v9 v10 v11 v12 wx hL hd hR K' hK
            rw [if_pos (by rfl)]
            clear hd
            have HR := Keep.mk hR
            have HK := Keep.mk hK
            clear hR hK
            go_simp
            exact HK.out _ _ _ _ _ _ _ _ _ _ _ _ _ _ (HR.out.put0)
          · intro L v0 v1 v2 v3 v4 v5 v6 v7 v8 v9 v10 v11 v12 wx hL hd hR K' hK
            rw [if_pos (by rfl)]
            have hd' : L 0 = true := by simp [Region.binds] at hd; simp [hd]
            clear hd
            have HR := Keep.mk hR
            have HK := Keep.mk hK
            clear hR hK
            obtain rfl := HR.out.p0 hd'
            go_simp
            exact HK.out _ _ _ _ _ _ _ _ _ _ _ _ _ _ (HR.out.put1)
          · intro L v0 v1 v2 v3 v4 v5 v6 v7 v8 v9 v10 v11 v12 wx hL hd hR K' hK
            rw [if_pos (by rfl)]
            have hd' : L 1 = true := by simp [Region.binds] at hd; simp [hd]
            clear hd
            have HR := Keep.mk hR
            have HK := Keep.mk hK
            clear hR hK
            obtain rfl := HR.out.p1 hd'
            go_simp
            (with_reducible refine (hrep.out _).mono ?_)
            rintro _ w7 ⟨rfl, hb7⟩
            go_simp
            exact HK.out _ _ _ _ _ _ _ _ _ _ _ _ _ _ ((HR.out.moved (HR.out.no13 hL (by simp)) hb7).put2)
          · intro L v0 v1 v2 v3 v4 v5 v6 v7 v8 v9 v10 v11 v12 wx hL hd hR K' hK
            rw [if_pos (by rfl)]
            have hd' : L 2 = true := by simp [Region.binds] at hd; simp [hd]
            clear hd
            have HR := Keep.mk hR
            have HK := Keep.mk hK
            clear hR hK
            obtain rfl := HR.out.p2 hd'
            go_simp
            exact HK.out _ _ _ _ _ _ _ _ _ _ _ _ _ _ (HR.out.put3 hd')
          · intro L v0 v1 v2 v3 v4 v5 v6 v7 v8 v9 v10 v11 v12 wx hL hd hR K' hK
            rw [if_pos (by rfl)]
            clear hd
            have HR := Keep.mk hR
            have HK := Keep.mk hK
            clear hR hK
            go_simp
            exact HK.out _ _ _ _ _ _ _ _ _ _ _ _ _ _ (HR.out.put4)
          · intro L v0 v1 v2 v3 v4 v5 v6 v7 v8 v9 v10 v11 v12 wx hL hd hR K' hK
            rw [if_pos (by rfl)]
            have hd' : L 4 = true := by simp [Region.binds] at hd; simp [hd]
            clear hd
            have HR := Keep.mk hR
            have HK := Keep.mk hK
            clear hR hK
            obtain rfl := HR.out.p4 hd'
            go_simp
            exact HK.out _ _ _ _ _ _ _ _ _ _ _ _ _ _ (HR.out.put5)
          · intro L v0 v1 v2 v3 v4 v5 v6 v7 v8 v9 v10 v11 v12 wx hL hd hR K' hK
            rw [if_pos (by rfl)]
            have hd' : L 5 = true := by simp [Region.binds] at hd; simp [hd]
            clear hd
            have HR := Keep.mk hR
            have HK := Keep.mk hK
            clear hR hK
            obtain rfl := HR.out.p5 hd'
            go_simp
            exact HK.out _ _ _ _ _ _ _ _ _ _ _ _ _ _ (HR.out.put6)
          · intro L v0 v1 v2 v3 v4 v5 v6 v7 v8 v9 v10 v11 v12 wx hL hd hR K' hK
            rw [if_pos (by rfl)]
            have hd' : L 6 = true := by simp [Region.binds] at hd; simp [hd]
            clear hd
            have HR := Keep.mk hR
            have HK := Keep.mk hK
            clear hR hK
            obtain rfl := HR.out.p6 hd'
            go_simp
            exact HK.out _ _ _ _ _ _ _ _ _ _ _ _ _ _ (HR.out.put7)
          · intro L v0 v1 v2 v3 v4 v5 v6 v7 v8 v9 v10 v11 v12 wx hL hd hR K' hK
            rw [if_pos (by rfl)]
            have hd' : L 7 = true := by simp [Region.binds] at hd; simp [hd]
            clear hd
            have HR := Keep.mk hR
            have HK := Keep.mk hK
            clear hR hK
            obtain rfl := HR.out.p7 hd'
            go_simp
            exact HK.out _ _ _ _ _ _ _ _ _ _ _ _ _ _ (HR.out.put8 hL)
          · intro L v0 v1 v2 v3 v4 v5 v6 v7 v8 v9 v10 v11 v12 wx hL hd hR K' hK
            rw [if_pos (by rfl)]
            have hd' : L 8 = true := by simp [Region.binds] at hd; simp [hd]
            clear hd
            have HR := Keep.mk hR
            have HK := Keep.mk hK
            clear hR hK
            obtain ⟨g, rfl, hg, _⟩ := HR.out.p8 hd' (HR.out.no13 hL (by simp))
            refine wp_convert_byte _ rfl g c _ rfl HBY.out.symm hg ?_
            exact HK.out _ _ _ _ _ _ _ _ _ _ _ _ _ _ (HR.out.put9 hd')
          · intro L v0 v1 v2 v3 v4 v5 v6 v7 v8 v9 v10 v11 v12 wx hL hd hR K' hK
            rw [if_pos (by rfl)]
            have hd' : L 3 = true ∧ L 9 = true := by simp [Region.binds] at hd; simp [hd]
            clear hd
            have HR := Keep.mk hR
            have HK := Keep.mk hK
            clear hR hK
            obtain rfl := HR.out.p3 hd'.1
            obtain rfl := HR.out.p9 hd'.2
            go_simp
            exact HK.out _ _ _ _ _ _ _ _ _ _ _ _ _ _ (by rw [← HNM.out]; exact HR.out.put10 hd'.1 hd'.2)
          · intro L v0 v1 v2 v3 v4 v5 v6 v7 v8 v9 v10 v11 v12 wx hL hd hR K' hK
            rw [if_pos (by rfl)]
            have hd' : L 10 = true := by simp [Region.binds] at hd; simp [hd]
            clear hd
            have HR := Keep.mk hR
            have HK := Keep.mk hK
            clear hR hK
            obtain rfl := HR.out.p10 hd'
            go_simp
            exact HK.out _ _ _ _ _ _ _ _ _ _ _ _ _ _ (HR.out.put11 hd')
          · intro L v0 v1 v2 v3 v4 v5 v6 v7 v8 v9 v10 v11 v12 wx hL hd hR K' hK
            rw [if_pos (by rfl)]
            clear hd
            have HR := Keep.mk hR
            have HK := Keep.mk hK
            clear hR hK
            go_simp
            exact HK.out _ _ _ _ _ _ _ _ _ _ _ _ _ _ (HR.out.put12 hL)
          · intro L v0 v1 v2 v3 v4 v5 v6 v7 v8 v9 v10 v11 v12 wx hL hd hR K' hK
            rw [if_pos (by rfl)]
            have hd' : L 12 = true ∧ L 11 = true := by simp [Region.binds] at hd; simp [hd]
            clear hd
            have HR := Keep.mk hR
            have HK := Keep.mk hK
            clear hR hK
            obtain rfl := HR.out.p11 hd'.2
            obtain ⟨Z, rfl, hZ1, hZ2⟩ := HR.out.p12 hd'.1 hL
            have HZ1 := Keep.mk hZ1
            have HZ2 := Keep.mk hZ2
            have z0 : wx.cell? ⟨Z, 0, none⟩ = some (.string ⟨#[]⟩) := by simp [World.cell?, hZ2]
            have z1 : wx.cell? ⟨Z, 1, none⟩ = some (.slice none 0 0) := by simp [World.cell?, hZ2]
            have z2 : wx.cell? ⟨Z, 2, none⟩ = some (.slice none 0 0) := by simp [World.cell?, hZ2]
            have z3 : wx.cell? ⟨Z, 3, none⟩ = some (.slice none 0 0) := by simp [World.cell?, hZ2]
            have zf0 : wx.frozen? ⟨Z, 0, none⟩ = false := by simp [World.frozen?, hZ2]
            have zf1 : wx.frozen? ⟨Z, 1, none⟩ = false := by simp [World.frozen?, hZ2]
            have zf2 : wx.frozen? ⟨Z, 2, none⟩ = false := by simp [World.frozen?, hZ2]
            have zf3 : wx.frozen? ⟨Z, 3, none⟩ = false := by simp [World.frozen?, hZ2]
            have zl : Z < wx.heap.size := (Array.getElem?_eq_some_iff.1 hZ2).1
            clear hZ1 hZ2
            go_simp
            refine HK.out _ _ _ _ _ _ _ _ _ _ _ _ _ _ (HR.out.put13 hd'.2 hd'.1 ⟨Z, rfl, HZ1.out, ?_, ?_⟩)
            · have e0 := heap_setCell_same wx Z 0 _ _ (.string (nmC x)) HZ2.out
              have e1 := heap_setCell_same _ Z 1 _ _ (.slice none 0 0) e0
              have e2 := heap_setCell_same _ Z 2 _ _ (.slice none 0 0) e1
              exact heap_setCell_same _ Z 3 _ _ (.slice none 0 0) e2
            · exact (((HR.out.bel.setCell (p := ⟨Z, 0, none⟩) HZ1.out _).setCell (p := ⟨Z, 1, none⟩) HZ1.out _).setCell (p := ⟨Z, 2, none⟩) HZ1.out _).setCell (p := ⟨Z, 3, none⟩) HZ1.out _
        · intro v0 v1 v2 v3 v4 v5 v6 v7 v8 v9 v10 v11 v12 wB hR
          have hF := hR.p13 rfl
          clear hR
          go_wp2
          go_meet
          exact hF
      case rest =>
      obtain ⟨Z, rfl, hZ1, hZ2, hb8⟩ := hcut
      have HS8 := Keep.mk (HSr.out.below hb8)
      have HZP : Keep (P < Z) := ⟨by have := (Array.getElem?_eq_some_iff.1 HSr.out.pb).1; omega⟩
      have HZV : Keep (∀ g, v.ownBlock = some g → g ≠ Z) := ⟨fun g hg => by
        obtain ⟨cs, hr, _⟩ := HSr.out.row
        have := (World.ownsRow.lt hr g hg).2
        omega⟩
      have HZ8 := Keep.mk hZ2
      clear hZ1 hZ2 hb8 HSr HNM HBY hD hD2 hM hM2 hq hr
      generalize wc = w8 at *
      obtain ⟨va, vc, rfl⟩ := (show ∃ a c, v = .slice a x c by obtain ⟨cs, hr, _⟩ := HS8.out.row; exact ownsRow_slice hr)
      go_upto_if 32 with (fail)
      go_cut [] from 33 to 45 (fun wx => ∃ bv, wx.heap[Z]? = some (.cells #[.string (nmC x), .slice none 0 0, .slice none 0 0, bv] 36 (0, 0)) ∧ BodyC wx x bv ∧ ChSt w wx P k x (.slice va x vc))
      case first =>
        by_cases hx0 : x = 0
        · subst hx0
          go_wp2_with fail
          go_meet
          exact ⟨_, HZ8.out, .inl ⟨rfl, rfl⟩, HS8.out⟩
        · have k2 : (0 : Int) < (x : Int) := by omega
          obtain ⟨y, hy⟩ : ∃ y, x = y + 1 := ⟨x - 1, by omega⟩
          have HY := Keep.mk hy
          have hxy : (x : Int) - 1 = (y : Int) := by omega
          have y0 : (0 : Int) ≤ (y : Int) := by omega
          have y1 : (y : Int) < (x : Int) := by omega
          obtain ⟨cs, hr, hc⟩ := HS8.out.row
          obtain ⟨g, cap, hv, hg1, hg2⟩ := row_form' hr (by omega)
          simp only [Value.slice.injEq, true_and] at hv
          obtain ⟨rfl, rfl⟩ := hv
          have hcl : w8.cell? ⟨g, y * 4, none⟩ = some (.string (nmC y)) := by
            have hc' := hc
            rw [hy] at hc'
            have hh := hc'.last
            have := World.ownsRow.cells hr (g := g) rfl _ _ hh
            rw [Addr.add_lit, Nat.zero_add] at this
            rw [this]
            have : nmK k y = nmC y := by unfold nmK; rw [if_neg (by omega)]
            rw [this]
          have HX0 := Keep.mk hx0
          have p2 : w8.cell? ⟨P, 2, none⟩ = some (.slice (some ⟨g, 0, none⟩) x vc) := by simp [World.cell?, HS8.out.pb]
          have pl : P < w8.heap.size := (Array.getElem?_eq_some_iff.1 HS8.out.pb).1
          have z3 : w8.cell? ⟨Z, 3, none⟩ = some (.slice none 0 0) := by simp [World.cell?, HZ8.out]
          have zf : w8.frozen? ⟨Z, 3, none⟩ = false := by simp [World.frozen?, HZ8.out]
          have zl : Z < w8.heap.size := (Array.getElem?_eq_some_iff.1 HZ8.out).1
          have HYX : Keep (x - 1 = y) := ⟨by omega⟩
          clear hy hx0 hr hc hg1
          go_wp2_with fail
          go_meet
          have hB := ch_body HS8.out HZ8.out HZP.out HZV.out HX0.out rfl
          rw [HYX.out] at hB
          exact ⟨_, hB.2.1, hB.2.2, hB.1⟩
      case rest =>
      obtain ⟨bv, hz9, hb9, hs9⟩ := hcut
      have HZ9 := Keep.mk hz9
      have HB9 := Keep.mk hb9
      have HS9 := Keep.mk hs9
      clear hz9 hb9 hs9 HS8 HZ8
      generalize wc = w9 at *
      go_upto_if 48 with (fail)
      go_cut [] from 49 to 50 (fun wx => wx.heap[Z]? = some (.cells #[.string (nmK k x), .slice none 0 0, .slice none 0 0, bv] 36 (0, 0)) ∧ BodyC wx x bv ∧ ChSt w wx P k x (.slice va x vc))
      case first =>
        by_cases hxk : x + 1 = k
        · have q1 : ((x : Int) == (k : Int) - 1) = true := by rw [beq_iff_eq]; omega
          have HXK := Keep.mk hxk
          have z0 : w9.cell? ⟨Z, 0, none⟩ = some (.string (nmC x)) := by simp [World.cell?, HZ9.out]
          have zf : w9.frozen? ⟨Z, 0, none⟩ = false := by simp [World.frozen?, HZ9.out]
          have zl : Z < w9.heap.size := (Array.getElem?_eq_some_iff.1 HZ9.out).1
          clear hxk
          go_wp2_with fail
          go_meet
          have e0 := heap_setCell_same w9 Z 0 _ _ (.string ⟨#[109, 97, 105, 110]⟩) HZ9.out
          have hn : nmK k x = ⟨#[109, 97, 105, 110]⟩ := by unfold nmK; rw [if_pos HXK.out]; rfl
          refine ⟨by rw [hn]; exact e0, HB9.out.grown (grown_setCell w9 ⟨Z, 0, none⟩ _) (fun g hg => by cases hg; exact ⟨_, _, _, HZ9.out, by decide, by decide⟩), HS9.out.set HZ9.out HZP.out HZV.out 0 _⟩
        · have q1 : ((x : Int) == (k : Int) - 1) = false := by rw [beq_eq_false_iff_ne]; omega
          have hn : Keep (nmK k x = nmC x) := ⟨by unfold nmK; rw [if_neg hxk]⟩
          clear hxk
          go_wp2_with fail
          go_meet
          exact ⟨by rw [hn.out]; exact HZ9.out, HB9.out, HS9.out⟩
      case rest =>
      obtain ⟨hz10, hb10, hs10⟩ := hcut
      clear HZ9 HB9 HS9
      generalize wc = w10 at *
      have HS10 := Keep.mk hs10
      have hbv : ∃ a n c, bv = .slice a n c := by
        rcases hb10 with ⟨_, rfl⟩ | ⟨_, S, E, rfl, _⟩
        · exact ⟨_, _, _, rfl⟩
        · exact ⟨_, _, _, rfl⟩
      obtain ⟨ba, bn, bc, rfl⟩ := hbv
      have HB10 := Keep.mk hb10
      obtain ⟨rs, hr, hc⟩ := hs10.row
      have HR := Keep.mk hr
      have HC := Keep.mk hc
      have z0 : w10.cell? ⟨Z, 0, none⟩ = some (.string (nmK k x)) := by simp [World.cell?, hz10]
      have z1 : w10.cell? ⟨Z, 1, none⟩ = some (.slice none 0 0) := by simp [World.cell?, hz10]
      have z2 : w10.cell? ⟨Z, 2, none⟩ = some (.slice none 0 0) := by simp [World.cell?, hz10]
      have z3 : w10.cell? ⟨Z, 3, none⟩ = some (.slice ba bn bc) := by simp [World.cell?, hz10]
      have zl : Z < w10.heap.size := (Array.getElem?_eq_some_iff.1 hz10).1
      have p2 : w10.cell? ⟨P, 2, none⟩ = some (.slice va x vc) := by simp [World.cell?, hs10.pb]
      have pl : P < w10.heap.size := (Array.getElem?_eq_some_iff.1 hs10.pb).1
      clear hz10 hb10 hs10 hr hc
      have hbase : P + 1 ≤ w10.heap.size := by omega
      have hxk : x ≤ 120 := by omega
      go_wp2_with (at_builtin; go_must (refine wpList_append_slc rfl _ _ 24 rfl (P + 1) 36 i0 (.agg #[.string ⟨#[]⟩, .slice none 0 0, .slice none 0 0, .slice none 0 0]) 4 88 Try.underlying24 hi hz0 hz1 hz2 rfl (by decide) _ x rs rfl (World.ownsRow.alloc HR.out _) _ 1 [.string (nmK k x), .slice none 0 0, .slice none 0 0, .slice ba bn bc] rfl (Slc.made (t := 36) [.string (nmK k x), .slice none 0 0, .slice none 0 0, .slice ba bn bc] (by decide) rfl) (by simp [Value.oneCell']) (by unfold maxLen; omega) (by omega) (by simp; omega) ?_); intro v11 w11 hown11 hg11 hv11; obtain ⟨av11, cv11, rfl⟩ := ownsRow_slice hown11; have H11 := ch_step HS10.out HR.out HC.out HB10.out hown11 hg11; have HF11 := Keep.mk H11.1; have n0 := H11.2.1; have n1 := H11.2.2.1; have n2 := H11.2.2.2; clear H11 hown11 hg11 hv11)
      go_roundw
      case rel => exact ⟨x + 1, _, by omega, by go_num, HF11⟩
      case measure => simp [intOf]; omega
    · have k1 : ¬ (x : Int) < (k : Int) := by omega
      obtain rfl : x = k := by omega
      obtain ⟨rs, hr, _⟩ := HSr.out.row
      obtain ⟨va, vc, rfl⟩ := ownsRow_slice hr
      clear hr
      have HP := Keep.mk (HSr.out.prog)
      have HC := Keep.mk (check_any HP.out (fits_chain (by omega)))
      rw [check_chain hk1 hk9] at HC
      have p0 : wr.cell? ⟨P, 0, none⟩ = some (.slice none 0 0) := by simp [World.cell?, HSr.out.pb]
      have p1 : wr.cell? ⟨P, 1, none⟩ = some (.slice none 0 0) := by simp [World.cell?, HSr.out.pb]
      have p2 : wr.cell? ⟨P, 2, none⟩ = some (.slice va x vc) := by simp [World.cell?, HSr.out.pb]
      have pl : P < wr.heap.size := (Array.getElem?_eq_some_iff.1 HSr.out.pb).1
      by_cases h60 : x ≤ 60
      · have q1 : (x : Int) ≤ 60 := by omega
        rw [if_pos h60] at HC
        clear h60
        go_wp2_with fail
        refine HC.out.mono ?_
        rintro _ w8 ⟨rfl, hb8⟩
        have HB8 := Keep.mk (HSr.out.low.trans (hb8.mono HSr.out.low.size))
        clear hb8 p0 p1 p2 pl
        go_wp2_with fail
        go_ret
        exact ⟨rfl, HB8.out⟩
      · have q1 : ¬ (x : Int) ≤ 60 := by omega
        rw [if_neg h60] at HC
        clear h60
        go_wp2_with fail
        refine HC.out.mono ?_
        rintro _ w8 ⟨rfl, hb8⟩
        have HB8 := Keep.mk (HSr.out.low.trans (hb8.mono HSr.out.low.size))
        clear hb8 p0 p1 p2 pl
        go_wp2_with fail
        go_ret
        exact ⟨by rw [show decide ((x : Int) ≤ 60) = false from decide_eq_false (by omega)]; rfl, HB8.out⟩
theorem CheckerChain_walk : LawWalk 9 Try.f9 := by
  intro H enc W base args ds ps hval hA hsz
  rw [Try.params9] at hA hval hsz
  obtain ⟨v0, vs0, d0, ds0, p0, q0, hargs, rfl, rfl, h0, r0⟩ := trodAll_cons hA
  obtain ⟨rfl, rfl, rfl⟩ := trodAll_nil r0
  obtain rfl : args = #[v0] := by cases args; simp_all
  obtain ⟨n, rfl, rfl, rfl, hn⟩ := open_int Try.underlying5 (hval 0 5 v0 rfl rfl) h0
  have hn' : 0 ≤ n ∧ n ≤ 255 := by simpa [Lit.wf, IntKind.min, IntKind.max, IntKind.signed, IntKind.bits] using hn
  obtain ⟨n, rfl⟩ := Int.eq_ofNat_of_zero_le hn'.1
  exact checkerChain_any n W (by omega)
end Go.Proofs.Ytgimdbflpdmlmaa
namespace Go.Proofs.Ytgimdbflpdmlmaa
open Go.ChangeShapes Go.WideShapes Go.ChangeAt Go.RowKit
set_option maxRecDepth 100000 in
theorem CheckerChain_lifted (os : Os) (started : os.Started) (H : Type) (enc : TypeId × Value → H) :
    ReturnsInHanded {} Try.checked os 9 .any (Rows.checkerChainSpec.pre6 enc Try.prog Try.f9 Rows.checkerChainRow.domain false) (Rows.checkerChainSpec.post enc Try.prog Try.f9 false true false false) := by
  refine returnsInHanded_of_change_sized (C := Try.checked) own started (by kernel_rfl) Try.func9
    (ChangeSpec.witness6 (enc := enc) (C := Try.checked) false ⟨#[], #[.int .u8 0], []⟩ 8 (by kernel_rfl) (by kernel_rfl) (by kernel_rfl) (by kernel_rfl)) ?_
  exact law_contract (by kernel_rfl) (by kernel_rfl) ⟨rfl, fun H ds h => by rw [Try.params9] at h; match ds, h with | [d0], _ => rfl⟩ CheckerChain_walk
theorem CheckerChain_over : Rows.checkerChainRow.holds Try.pinned (OpenSpec.ofChange Rows.checkerChainSpec) :=
  OpenClaim.holds_of_wide 9 Try.f9 rfl rfl rfl rfl rfl rfl rfl ⟨rfl, rfl, rfl, rfl, rfl⟩ rfl rfl rfl rfl rfl (by kernel_rfl) Try.func9 (by kernel_rfl)
    (of_decide_eq_true (by kernel_rfl)) (by unfold Func.isWrapper; first | (rw [if_pos (by decide +kernel)]; kernel_rfl) | (rw [if_neg (by decide +kernel)]; exact ⟨rfl, rfl⟩))
    (fun os started H enc _ => CheckerChain_lifted os started H enc)
theorem CheckerChain_proved : Rows.CheckerChainSaid := CheckerChain_over
end Go.Proofs.Ytgimdbflpdmlmaa
