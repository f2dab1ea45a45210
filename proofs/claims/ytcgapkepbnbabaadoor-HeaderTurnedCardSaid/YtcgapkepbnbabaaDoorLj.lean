/- plain, heavy, the reference over messages. -/
import Derived.Test.YtcgapkepbnbabaaDoorLg
import Derived.Test.YtcgapkepbnbabaaDoorDa
namespace Go.Proofs.YtcgapkepbnbabaaDoor.X5
set_option linter.unusedVariables false
set_option linter.unusedSimpArgs false
open Go.RowKit Wd Ty9

theorem rmsg_info : (Tryd.prog.info? 63).map (fun i => (i.zero, i.size, i.bytes)) = some (some (.agg #[.int .i64 0, .slice none 0 0]), 2, 32) := by kernel_rfl
def lightM (l : List Mg) : Prop := l.length + (l.map fun m => m.2.length).sum ≤ 200000

set_option maxHeartbeats 1000000 in
set_option maxRecDepth 100000 in
theorem plain8_any (A : Option Addr) (n C : Nat) (l : List Mg) (w : World) (hn : n * 32 ≤ 140737488355328) (h : Ms w w.heap.size A n l) :
    Calls Tryd.prog 13 #[.slice A n C] w fun e w' => ∃ V, e = .returned V ∧ Om 63 w V l w' := by
  have hl := h.len
  have HM := Lib.hid h
  clear h
  go_enter Tryd.func13, Tryd.ntmps13
  go_wp2
  go_loopw [3, 4] (fun v i wr => ∃ (k : Nat), i = .int .i64 k ∧ k ≤ n ∧ Om 63 w v (l.take k) wr) (fun _ i _ => n - (intOf i).toNat)
  case atStart => exact ⟨0, rfl, Nat.zero_le _, Om.nil _ _⟩
  case round =>
    obtain ⟨k, rfl, hk, how⟩ := hrel
    obtain ⟨Af, Cf, hV⟩ := how.form
    have htl : (l.take k).length = k := by rw [List.length_take]; omega
    rw [htl] at hV
    subst hV
    have HOW := Lib.hid how
    have HTL := Lib.hid htl
    clear how htl
    by_cases hlt : k < n
    · have hltz : (k : Int) < (n : Int) := by omega
      obtain ⟨b, o, x, Ai, ci, rfl, hb1, hx, c0, c1, hci, hmi, hyi⟩ := HM.out.get hlt
      have HYI := Lib.hid (((hyi.later HOW.out.be).up HOW.out.be.size))
      have hbw : b < wr.heap.size := Nat.lt_of_lt_of_le hb1 HOW.out.be.size
      have HA := Lib.hid (show 0 < x.2.length → ∀ b' o', Ai = some ⟨b', o', none⟩ → (Value.slice Af k Cf).ownBlock ≠ some b' from fun h0 b' o' e => by
        obtain ⟨b2, o2, e2, hlt2, _⟩ := hyi.at_ h0
        rw [e] at e2
        cases e2
        obtain ⟨vs, hown, _⟩ := HOW.out.ex
        intro e3
        have := (hown.lt _ e3).1
        omega)
      rw [← HOW.out.be.cell (p := ⟨b, o + k * 2, none⟩) hb1] at c0
      rw [← HOW.out.be.cell (p := ⟨b, o + k * 2 + 1, none⟩) hb1] at c1
      have HTK := Lib.hid (take_snoc hx)
      have HQ := Lib.hid (rfl : x.2.length = x.2.length)
      obtain ⟨q, hq⟩ : ∃ q, x.2.length = q := ⟨_, rfl⟩
      rw [hq] at c1 hci hmi HYI HA
      have HQE := Lib.hid hq
      clear hq HQ hyi hx
      have HOE := Lib.hid (HOW.out.below (((Below.refl _ wr).drew).alloc (Nat.le_refl _) (.cells #[.int .i64 x.1, .slice Ai q ci] 63)))
      have HYE := Lib.hid ((HYI.out.later (((Below.refl _ wr).drew).alloc (Nat.le_refl _) (.cells #[.int .i64 x.1, .slice Ai q ci] 63))).up (((Below.refl _ wr).drew).alloc (Nat.le_refl _) (.cells #[.int .i64 x.1, .slice Ai q ci] 63)).size)
      have HLL := Lib.hid (show ((l.take k).length + 1) * 32 ≤ 140737488355328 by rw [HTL.out]; omega)
      go_upto_region 5 with fail
      go_region_law (refine step_push Tryd.underlying29 rmsg_info (by rfl) (.tmp 11) (.tmp 23) (by rfl) w (.slice Af k Cf) (l.take k) x Ai q ci wr.heap.size (by simp [Act.eval, Act.put]) (by simp [Act.eval, Act.put]) HOE.out HQE.out (Bx.new wr.drew _ _) hci hmi HYE.out HA.out HLL.out ?_; intro V2 w4 how4; have HO4 := Lib.hid how4; clear how4)
      all_goals
        clear c0 c1
        go_wp2
        go_roundw
        (case rel => exact ⟨k + 1, by go_num, by omega, by rw [HTK.out]; exact HO4.out⟩)
        (case measure => simp [intOf]; omega)
    · obtain rfl : k = n := by omega
      have HF := Lib.hid (show Om 63 w (.slice Af k Cf) l wr by have h1 := HOW.out; rwa [List.take_of_length_le (by omega)] at h1)
      go_wp2
      go_ret
      exact ⟨_, rfl, HF.out⟩

def BoolR (e : Ending) : Prop := ∃ r : Bool, e = .returned (.bool r)
theorem BoolR.mk (r : Bool) : BoolR (.returned (.bool r)) := ⟨r, rfl⟩

set_option maxHeartbeats 1000000 in
set_option maxRecDepth 100000 in
theorem heavy_any (A : Option Addr) (n C : Nat) (l : List Mg) (Ar : Option Addr) (nr Cr lo hi : Nat) (room : List Xt) (w : World) (hn : n ≤ 140737488355328) (hnr : nr ≤ 140737488355328) (h : Ms w w.heap.size A n l) (hr : Ex w lo hi Ar nr room) (hhi : hi ≤ w.heap.size) :
    Calls Tryd.prog 9 #[.slice A n C, .slice Ar nr Cr] w fun e w' => BoolR e ∧ Below w.heap.size w w' := by
  have hl := h.len
  have hrl := hr.len
  have HM := Lib.hid h
  have HX := Lib.hid hr
  clear h hr
  go_enter Tryd.func9, Tryd.ntmps9
  go_wp2
  go_loopw [5, 6] (fun v i wr => ∃ (k : Nat) (s : Int), v = .int .i64 s ∧ i = .int .i64 k ∧ k ≤ n ∧ Below w.heap.size w wr) (fun _ i _ => n - (intOf i).toNat)
  case atStart => exact ⟨0, n, rfl, rfl, Nat.zero_le _, Below.refl _ _⟩
  case round =>
    obtain ⟨k, s, rfl, rfl, hk, hbe⟩ := hrel
    have HBE := Lib.hid hbe
    clear hbe
    by_cases hlt : k < n
    · have hltz : (k : Int) < (n : Int) := by omega
      obtain ⟨b, o, x, Ai, ci, rfl, hb1, hx, c0, c1, hci, hmi, hyi⟩ := HM.out.get hlt
      rw [← HBE.out.cell (p := ⟨b, o + k * 2 + 1, none⟩) hb1] at c1
      clear c0 hyi hx
      generalize x.2.length = q at *
      go_wp2
      go_roundw
      case rel => exact ⟨k + 1, _, rfl, by go_num, by omega, HBE.out⟩
      case measure => simp [intOf]; omega
    · obtain rfl : k = n := by omega
      clear hk
      go_wp2
      generalize wr = wo at *
      go_loopw [7] (fun i wr => ∃ (j : Nat), i = .int .i64 j ∧ j ≤ nr ∧ Below w.heap.size w wr) (fun i _ => nr - (intOf i).toNat)
      case atStart => exact ⟨0, rfl, Nat.zero_le _, HBE.out⟩
      case round =>
        obtain ⟨j, rfl, hj, hbe⟩ := hrel
        have HBJ := Lib.hid hbe
        clear hbe
        by_cases hltj : j < nr
        · have hltz : (j : Int) < (nr : Int) := by omega
          obtain ⟨b, o, rfl, hb1, hb2, -⟩ := HX.out.at_ (by omega)
          obtain ⟨c0, c1⟩ := HX.out.get rfl (i := j) (by omega)
          have hbw : b < w.heap.size := Nat.lt_of_lt_of_le hb2 hhi
          rw [← HBJ.out.cell (p := ⟨b, o + j * 2 + 1, none⟩) hbw] at c1
          clear c0
          generalize (room[j]'_).2 = x1 at c1
          by_cases h1 : 5000 < x1
          · have d1 : decide (5000 < x1) = true := by simp; exact h1
            by_cases h2 : x1 ≤ 4194304
            · have d2 : decide (x1 ≤ 4194304) = true := by simp; exact h2
              go_wp2
              go_ret
              exact ⟨BoolR.mk _, HBJ.out⟩
            · have d2 : decide (x1 ≤ 4194304) = false := by simp; omega
              go_wp2
              go_roundw
              case rel => exact ⟨j + 1, by go_num, by omega, HBJ.out⟩
              case measure => simp [intOf]; omega
          · have d1 : decide (5000 < x1) = false := by simp; omega
            go_wp2
            go_roundw
            case rel => exact ⟨j + 1, by go_num, by omega, HBJ.out⟩
            case measure => simp [intOf]; omega
        · obtain rfl : j = nr := by omega
          by_cases h1 : 200000 < s
          · have d1 : decide (200000 < s) = true := by simp; exact h1
            go_wp2
            go_ret
            exact ⟨BoolR.mk _, HBJ.out⟩
          · have d1 : decide (200000 < s) = false := by simp; omega
            by_cases h2 : 100 < j
            · have d2 : decide ((100 : Int) < (j : Int)) = true := by simp; omega
              have d2' : (100 : Int) < (j : Int) := by omega
              go_wp2
              go_ret
              exact ⟨BoolR.mk _, HBJ.out⟩
            · have d2 : decide ((100 : Int) < (j : Int)) = false := by simp; omega
              have d2' : ¬ (100 : Int) < (j : Int) := by omega
              go_wp2
              go_ret
              exact ⟨BoolR.mk _, HBJ.out⟩

set_option maxHeartbeats 1000000 in
set_option maxRecDepth 100000 in
theorem rmay8_any (A : Option Addr) (n C : Nat) (l : List Mg) (w : World) (hn : n ≤ 140737488355328) (h : Ms w w.heap.size A n l) :
    Calls Tryd.prog 12 #[.slice A n C] w fun e w' => (∃ z : Int, e = .returned (.int .i64 z) ∧ IsMay l z) ∧ Below w.heap.size w w' := by
  have hl := h.len
  have HM := Lib.hid h
  clear h
  by_cases hbig : 65536 < n
  · have z1 : (65536 : Int) < (n : Int) := by omega
    go_enter Tryd.func12, Tryd.ntmps12
    go_wp2
    go_ret
    exact ⟨⟨3, rfl, .inl ⟨fun h => by omega, rfl⟩⟩, Below.refl _ _⟩
  have z1 : ¬ (65536 : Int) < (n : Int) := by omega
  go_enter Tryd.func12, Tryd.ntmps12
  go_wp2
  go_loopw [3] (fun i wr => ∃ (k : Nat), i = .int .i64 k ∧ k ≤ n ∧ Below w.heap.size w wr ∧ Hid (∀ m ∈ l.take k, smallM m)) (fun i _ => n - (intOf i).toNat)
  case atStart => exact ⟨0, rfl, Nat.zero_le _, Below.refl _ _, Lib.hid (by simp)⟩
  case round =>
    obtain ⟨k, rfl, hk, hbe, HZ⟩ := hrel
    have HBE := Lib.hid hbe
    clear hbe
    by_cases hlt : k < n
    · have hltz : (k : Int) < (n : Int) := by omega
      obtain ⟨b, o, x, Ai, ci, rfl, hb1, hx, c0, c1, hci, hmi, hyi⟩ := HM.out.get hlt
      rw [← HBE.out.cell (p := ⟨b, o + k * 2 + 1, none⟩) hb1] at c1
      have HTK := Lib.hid (take_snoc hx)
      have HMEM := Lib.hid (List.mem_of_getElem? hx)
      clear hx hyi c0
      by_cases hs : smallM x
      · have HS := Lib.hid hs
        unfold smallM at hs
        have y1 : ¬ (65536 : Int) < (x.2.length : Int) := by omega
        generalize x.2.length = q at *
        clear hs
        go_wp2
        go_roundw
        case rel => exact ⟨k + 1, by go_num, by omega, HBE.out, Lib.hid (by rw [HTK.out]; exact all_snoc.mpr ⟨HZ.out, HS.out⟩)⟩
        case measure => simp [intOf]; omega
      · have HS := Lib.hid (show IsMay l 3 from .inl ⟨fun h => hs (h.2 x HMEM.out), rfl⟩)
        unfold smallM at hs
        have y1 : (65536 : Int) < (x.2.length : Int) := by omega
        generalize x.2.length = q at *
        clear hs
        go_wp2
        go_ret
        exact ⟨⟨3, rfl, HS.out⟩, HBE.out⟩
    · obtain rfl : k = n := by omega
      have HSM := Lib.hid (show ∀ m ∈ l, smallM m by have h1 := HZ.out; rwa [List.take_of_length_le (by omega)] at h1)
      clear hk HZ
      go_wp2
      generalize wr = wo at *
      go_loopw [4] (fun i wr => ∃ (j : Nat), i = .int .i64 j ∧ j ≤ k ∧ Below w.heap.size w wr ∧ Hid (∀ m ∈ l.take j, okM m)) (fun i _ => k - (intOf i).toNat)
      case atStart => exact ⟨0, rfl, Nat.zero_le _, HBE.out, Lib.hid (by simp)⟩
      case round =>
        obtain ⟨j, rfl, hj, hbe, HZ⟩ := hrel
        have HBJ := Lib.hid hbe
        clear hbe
        by_cases hltj : j < k
        · have hltz : (j : Int) < (k : Int) := by omega
          obtain ⟨b, o, x, Ai, ci, rfl, hb1, hx, c0, c1, hci, hmi, hyi⟩ := HM.out.get hltj
          rw [← HBJ.out.cell (p := ⟨b, o + j * 2, none⟩) hb1] at c0
          have HTK := Lib.hid (take_snoc hx)
          have HMEM := Lib.hid (List.mem_of_getElem? hx)
          clear hx hyi c1
          by_cases h1 : x.1 < 1
          · have HO := Lib.hid (show IsMay l 2 from .inr ⟨⟨by omega, HSM.out⟩, .inl ⟨fun h => by have := (h x HMEM.out).1; omega, rfl⟩⟩)
            have d1 : decide (x.1 < 1) = true := by simp; exact h1
            go_wp2
            go_ret
            exact ⟨⟨2, rfl, HO.out⟩, HBJ.out⟩
          · have d1 : decide (x.1 < 1) = false := by simp; omega
            by_cases h2 : 255 < x.1
            · have HO := Lib.hid (show IsMay l 2 from .inr ⟨⟨by omega, HSM.out⟩, .inl ⟨fun h => by have := (h x HMEM.out).2; omega, rfl⟩⟩)
              have d2 : decide (255 < x.1) = true := by simp; exact h2
              go_wp2
              go_ret
              exact ⟨⟨2, rfl, HO.out⟩, HBJ.out⟩
            · have HO := Lib.hid (show okM x from ⟨by omega, by omega⟩)
              have d2 : decide (255 < x.1) = false := by simp; omega
              go_wp2
              go_roundw
              case rel => exact ⟨j + 1, by go_num, by omega, HBJ.out, Lib.hid (by rw [HTK.out]; exact all_snoc.mpr ⟨HZ.out, HO.out⟩)⟩
              case measure => simp [intOf]; omega
        · obtain rfl : j = k := by omega
          have HF := Lib.hid (show IsMay l 0 from .inr ⟨⟨by omega, HSM.out⟩, .inr ⟨by have h1 := HZ.out; rwa [List.take_of_length_le (by omega)] at h1, rfl⟩⟩)
          go_wp2
          go_ret
          exact ⟨⟨0, rfl, HF.out⟩, HBJ.out⟩

set_option maxHeartbeats 1000000 in
set_option maxRecDepth 100000 in
theorem rstream_any (A : Option Addr) (n C : Nat) (l : List Mg) (w : World) (h : Ms w w.heap.size A n l) (hm0 : IsMay l 0) :
    Calls Tryd.prog 14 #[.slice A n C] w fun e w' => ∃ V, e = .returned V ∧ RowB w' w.heap.size V (streamM l) ∧ Below w.heap.size w w' := by
  have hl := h.len
  have HM := Lib.hid h
  obtain ⟨hlen, hsm, hok⟩ : l.length ≤ 65536 ∧ (∀ m ∈ l, smallM m) ∧ ∀ m ∈ l, okM m := by
    rcases hm0 with ⟨_, h⟩ | ⟨h, ⟨_, h2⟩ | ⟨h2, _⟩⟩
    · cases h
    · cases h2
    · exact ⟨h.1, h.2, h2⟩
  have HSM := Lib.hid hsm
  have HOK := Lib.hid hok
  have HLS := Lib.hid (show preB n l = streamM l by unfold preB streamM; rw [hl])
  have hnb : n ≤ 65536 := by omega
  have HD0 := Lib.hid (digits_any true 4 n w (by omega) (by omega))
  have q0 : IntKind.u64.wrap (n : Int) = (n : Int) := by simp [IntKind.wrap, IntKind.bits, IntKind.signed]; omega
  clear h hm0 hsm hok hlen
  go_enter Tryd.func14, Tryd.ntmps14
  go_wp2_with (go_at_call 26; refine HD0.out.mono ?_; rintro _ w1 ⟨V1, rfl, hrow, hb⟩; refine Hid.out ?_)
  have HR1 := Lib.hid (show RowB w1 w.heap.size V1 (preB n (l.take 0)) from by
    have e : preB n (l.take 0) = digs 4 true n := by unfold preB; simp
    rw [e]; exact hrow)
  have HB1 := Lib.hid hb
  clear hrow hb HD0 q0
  refine go_on ?_
  go_wp2
  go_loopw [3, 4] (fun v i wr => ∃ (k : Nat), i = .int .i64 k ∧ k ≤ n ∧ RowB wr w.heap.size v (preB n (l.take k)) ∧ Below w.heap.size w wr) (fun _ i _ => n - (intOf i).toNat)
  case atStart => exact ⟨0, rfl, Nat.zero_le _, HR1.out, HB1.out⟩
  case round =>
    obtain ⟨k, rfl, hk, hrow, hbe⟩ := hrel
    have HBE := Lib.hid hbe
    have hszk := size_bound (l := l.take k) (fun m hm => HSM.out m (List.mem_of_mem_take hm))
    rw [List.length_take] at hszk
    have hs1 : sizeM (l.take k) ≤ 4295496000 := by
      have : min k l.length ≤ 65536 := by omega
      have := Nat.mul_le_mul_right 65544 this
      omega
    clear hszk
    by_cases hlt : k < n
    · have HRW := Lib.hid hrow
      clear hrow hbe
      have hltz : (k : Int) < (n : Int) := by omega
      obtain ⟨b, o, x, Ai, ci, rfl, hb1, hx, c0, c1, hci, hmi, hyi⟩ := HM.out.get hlt
      have HYI := Lib.hid hyi
      have C0 := Lib.hid c0
      have C1 := Lib.hid c1
      have hsx := HSM.out x (List.mem_of_getElem? hx)
      have hox := HOK.out x (List.mem_of_getElem? hx)
      unfold smallM at hsx
      unfold okM at hox
      have HTK := Lib.hid (show preB n (l.take (k + 1)) = preB n (l.take k) ++ digs 4 true x.1.toNat ++ digs 4 true x.2.length ++ x.2 by rw [take_snoc hx, preB_snoc])
      obtain ⟨x0, xs⟩ := x
      simp only at C0 C1 c0 c1 hci hmi HYI hsx hox HTK
      obtain ⟨u, hu⟩ : ∃ u : Nat, (u : Int) = x0 := ⟨x0.toNat, by omega⟩
      subst hu
      rw [Int.toNat_natCast] at HTK
      rw [← HBE.out.cell (p := ⟨b, o + k * 2, none⟩) hb1] at c0
      have q0 : IntKind.u64.wrap (u : Int) = (u : Int) := by simp [IntKind.wrap, IntKind.bits, IntKind.signed]; omega
      have HLP := Lib.hid (preB_len n (l.take k))
      obtain ⟨q, hq⟩ : ∃ q, xs.length = q := ⟨_, rfl⟩
      rw [hq] at hsx hci hmi HYI C1 c1 HTK
      have q1 : IntKind.u64.wrap (q : Int) = (q : Int) := by simp [IntKind.wrap, IntKind.bits, IntKind.signed]; omega
      have HDU := Lib.hid (digits_any true 4 u wr (by omega) (by omega))
      have HDQ := Lib.hid (fun (W : World) => digits_any true 4 q W (by omega) (by omega))
      clear hyi hx c1 hq
      generalize hpre : preB n (l.take k) = pre at *
      generalize sizeM (l.take k) = s at *
      clear hpre
      go_wp2_with (go_at_call 26; refine HDU.out.mono ?_; rintro _ w3 ⟨V3, rfl, hrow3, hb3⟩; refine Hid.out ?_)
      have HR3 := Lib.hid (HRW.out.below hb3)
      have HB3 := Lib.hid (below_more HBE.out hb3)
      obtain ⟨A3, c3, rfl, hby3⟩ := hrow3.byt
      have hd4 := digs_len 4 true u
      rw [hd4] at hby3
      have HY3 := Lib.hid hby3
      have HL1 := Lib.hid (show pre.length + 4 ≤ 140737488355328 by rw [HLP.out]; omega)
      clear hrow3 hb3 hby3 HDU c0
      rw [hd4]
      clear hd4
      refine go_on ?_
      go_wp2_with (at_builtin; refine wp_rowb rfl (.tmp 15) (.tmp 22) rfl w.heap.size 4 c3 _ pre (digs 4 true u) A3 _ rfl rfl HR3.out HY3.out HL1.out HB3.out.size ?_; intro V4 w4 hrow4 hb4; refine Hid.out ?_)
      have HR4 := Lib.hid hrow4
      have HB4 := Lib.hid (HB3.out.trans hb4)
      have d1 : w4.cell? ⟨b, o + k * 2 + 1, none⟩ = some (.slice Ai q ci) := (HB4.out.cell (p := ⟨b, o + k * 2 + 1, none⟩) hb1).trans C1.out
      have HD4 := Lib.hid (HDQ.out w4)
      clear hrow4 hb4
      refine go_on ?_
      go_wp2_with (go_at_call 26; refine HD4.out.mono ?_; rintro _ w5 ⟨V5, rfl, hrow5, hb5⟩; refine Hid.out ?_)
      have HR5 := Lib.hid (HR4.out.below hb5)
      have HB5 := Lib.hid (below_more HB4.out hb5)
      obtain ⟨A5, c5, rfl, hby5⟩ := hrow5.byt
      have hd4 := digs_len 4 true q
      rw [hd4] at hby5
      have HY5 := Lib.hid hby5
      have HL5 := Lib.hid (show (pre ++ digs 4 true u).length + 4 ≤ 140737488355328 by rw [List.length_append, digs_len, HLP.out]; omega)
      clear hrow5 hb5 hby5 HD4 d1
      rw [hd4]
      clear hd4
      refine go_on ?_
      go_wp2_with (at_builtin; refine wp_rowb rfl (.tmp 24) (.tmp 32) rfl w.heap.size 4 c5 _ (pre ++ digs 4 true u) (digs 4 true q) A5 _ rfl rfl HR5.out HY5.out HL5.out HB5.out.size ?_; intro V6 w6 hrow6 hb6; refine Hid.out ?_)
      have HR6 := Lib.hid hrow6
      have HB6 := Lib.hid (HB5.out.trans hb6)
      have d1 : w6.cell? ⟨b, o + k * 2 + 1, none⟩ = some (.slice Ai q ci) := (HB6.out.cell (p := ⟨b, o + k * 2 + 1, none⟩) hb1).trans C1.out
      have HY6 := Lib.hid (HYI.out.later HB6.out)
      have HL6 := Lib.hid (show (pre ++ digs 4 true u ++ digs 4 true q).length + q ≤ 140737488355328 by rw [List.length_append, List.length_append, digs_len, digs_len, HLP.out]; omega)
      clear hrow6 hb6
      refine go_on ?_
      go_wp2_with (at_builtin; refine wp_rowb rfl (.tmp 34) (.tmp 39) rfl w.heap.size q ci _ (pre ++ digs 4 true u ++ digs 4 true q) xs Ai _ rfl rfl HR6.out HY6.out HL6.out HB6.out.size ?_; intro V7 w7 hrow7 hb7; refine Hid.out ?_)
      rw [← HTK.out] at hrow7
      have HR7 := Lib.hid hrow7
      have HB7 := Lib.hid (HB6.out.trans hb7)
      clear hrow7 hb7 d1
      refine go_on ?_
      go_wp2
      go_roundw
      case rel => exact ⟨k + 1, by go_num, by omega, HR7.out, HB7.out⟩
      case measure => simp [intOf]; omega
    · obtain rfl : k = n := by omega
      have HF := Lib.hid (show RowB wr w.heap.size _ (streamM l) by
        have h1 := hrow
        rw [show l.take k = l from List.take_of_length_le (by omega), HLS.out] at h1
        exact h1)
      clear hrow hbe hs1
      go_wp2
      go_ret
      exact ⟨_, rfl, HF.out, HBE.out⟩
end Go.Proofs.YtcgapkepbnbabaaDoor.X5
