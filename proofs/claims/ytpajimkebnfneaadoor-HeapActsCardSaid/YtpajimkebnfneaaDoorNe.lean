/- A heap's bytes. -/
import Derived.Test.YtpajimkebnfneaaDoorNd
namespace Go.Proofs.YtpajimkebnfneaaDoor.X5
set_option linter.unusedVariables false
set_option linter.unusedSimpArgs false
open Go.RowKit Go.Maps Wd Ty9

/-- What stands for a number. -/
def slotB : Option (List Nat) → List Nat
  | none => [0]
  | some x => 1 :: (digs 4 true x.length ++ x)
/-- Behind the greatest number that a thing has. -/
def lastN {α : Type} (L : List (Option α)) : Nat := match (idsL L).getLast? with | some z => z.toNat + 1 | none => 0
def heapB (L : List (Option (List Nat))) : List Nat := digs 4 true (lastN L) ++ (L.take (lastN L)).flatMap slotB
theorem lastN_le {α : Type} (L : List (Option α)) : lastN L ≤ L.length := by
  unfold lastN
  split
  · rename_i z h
    obtain ⟨h0, v, hv⟩ := (idsL_mem L z).mp (List.mem_of_getLast? h)
    have := (List.getElem?_eq_some_iff.mp hv).1
    omega
  · exact Nat.zero_le _
theorem slotB_len (o : Option (List Nat)) (h : ∀ x, o = some x → x.length ≤ 65536) : (slotB o).length ≤ 65541 := by
  cases o with
  | none => simp [slotB]
  | some x => have := h x rfl; simp [slotB, digs_len]; omega
theorem flat_len : ∀ (l : List (Option (List Nat))), (∀ x, some x ∈ l → x.length ≤ 65536) → (l.flatMap slotB).length ≤ l.length * 65541
  | [], _ => Nat.le_refl _
  | o :: l, h => by
    have h1 := slotB_len o (fun x e => h x (by rw [← e]; exact List.mem_cons_self))
    have h2 := flat_len l (fun x hx => h x (List.mem_cons_of_mem _ hx))
    rw [List.flatMap_cons, List.length_append, List.length_cons, Nat.succ_mul]
    omega
/-- All things are small. -/
def smallL (L : List (Option (List Nat))) : Prop := ∀ x, some x ∈ L → x.length ≤ 65536
theorem HpR.small {w : World} {S : Nat → Prop} {hb mb : Nat} {D : DataW Value} {Lv : List (Option Value)} {L : List (Option (List Nat))} (h : HpR w S hb mb D Lv L) : smallL L := fun x hx => by
  obtain ⟨i, hi, e⟩ := List.mem_iff_getElem.mp hx
  obtain ⟨A, m, c, _, _, h3, h4, _⟩ := h.row i x (by rw [List.getElem?_eq_getElem hi, e])
  rw [h4.len]; exact h3
theorem take_snoc {L : List (Option (List Nat))} {k : Nat} {o : Option (List Nat)} (h : L[k]? = some o) : (L.take (k + 1)).flatMap slotB = (L.take k).flatMap slotB ++ slotB o := by
  rw [List.take_add_one, h, List.flatMap_append]
  simp

section
variable {w : World} {S : Nat → Prop} {hb mb : Nat} {D : DataW Value} {Lv : List (Option Value)} {L : List (Option (List Nat))}
set_option maxHeartbeats 4000000 in
set_option maxRecDepth 100000 in
theorem bytes_any (h : HpR w S hb mb D Lv L) (hl : L.length ≤ 60000) (hG : Gs w) :
    Calls Tryd.prog 13 #[.pointer (some ⟨hb, 0, none⟩)] w fun e w' => ∃ V, e = .returned V ∧ RowB w' w.heap.size V (sealL (heapB L)) ∧ Below w.heap.size w w' := by
  have HH := Lib.hid h
  have HGS := Lib.hid hG
  have HG := Lib.hid (good_yes hb mb w h.box)
  have HI := Lib.hid (ids_any h hl)
  have hsm := h.small
  have HSM := Lib.hid hsm
  have hle := lastN_le L
  obtain ⟨N, hN⟩ : ∃ N, lastN L = N := ⟨_, rfl⟩
  have HN := Lib.hid hN
  rw [hN] at hle
  have hcl := cntL_le L
  have hlen := idsL_len L
  have HIL := Lib.hid hlen
  obtain ⟨cn, hcn⟩ : ∃ cn, cntL L = cn := ⟨_, rfl⟩
  have HCN := Lib.hid hcn
  rw [hcn] at HI hcl hlen
  clear h hG hN hcn hsm
  go_enter Tryd.func13, Tryd.ntmps13
  go_upto_region 5 with (first | (go_at_call 22; refine HG.out.mono ?_; rintro _ w2 ⟨rfl, rfl⟩) | (go_at_call 12; refine HI.out.mono ?_; rintro _ w3 ⟨V, rfl, hrow, hb3⟩))
  obtain ⟨AI, CI, hVI⟩ := own_form hrow
  subst hVI
  have HB3 := Lib.hid hb3
  have HDN := Lib.hid (fun (W : World) (hbe : Below w3.heap.size w3 W) (A : Option Addr) (c : Nat) (bs : List Nat) (hm : bs.length ≤ 140737488000000) (hy : Byt W W.heap.size A bs.length bs) => seal_any A bs.length c bs W hm hy (HGS.out.later (below_more HB3.out hbe) (Nat.le_refl _)))
  have HH3 := Lib.hid (HH.out.later HB3.out)
  rcases Nat.eq_zero_or_pos cn with h0 | h0
  · subst h0
    have HNZ := Lib.hid (show lastN L = 0 by unfold lastN; rw [List.eq_nil_of_length_eq_zero hlen]; rfl)
    have HP := Lib.hid (show Calls Tryd.prog 26 #[.slice none 0 0, .int .i64 4, .bool true, .int .u64 0] w3 _ from put_ok true 4 0 0 0 none [] w3 (by omega) (by omega) (by omega) (by omega) Byt.nil)
    clear hrow hb3 hlen hcl hle HI
    go_wp2_with (go_at_call 26; refine HP.out.mono ?_; rintro _ w4 ⟨V, rfl, ho, hb4⟩; refine Hid.out ?_)
    have hr : RowB w4 w3.heap.size V (heapB L) := by
      have e : heapB L = [] ++ digs 4 true 0 := by unfold heapB; rw [HNZ.out]; simp
      rw [e]
      exact ⟨by rw [List.length_append, digs_len]; exact ho, fun x hx => digs_lt _ _ _ x (by simpa using hx)⟩
    have hlb : (heapB L).length = 4 := by unfold heapB; rw [HNZ.out]; simp [digs_len]
    obtain ⟨A4, C4, rfl, hy4⟩ := hr.byt
    have HSL := Lib.hid (HDN.out w4 hb4 A4 C4 (heapB L) (by omega) hy4)
    have HB4 := Lib.hid (below_more HB3.out hb4)
    generalize (heapB L).length = hlN at *
    clear ho hr hlb hy4 hb4
    refine go_on ?_
    go_wp2
    go_loopw [5, 32] (fun b i wr => b = .slice A4 hlN C4 ∧ i = .int .i64 0 ∧ wr = w4) (fun _ _ _ => 0)
    case atStart => exact ⟨rfl, rfl, rfl⟩
    case round =>
      obtain ⟨rfl, rfl, rfl⟩ := hrel
      go_wp2_with (go_at_call 28; refine HSL.out.mono ?_; rintro _ w5 ⟨V5, rfl, hr5, hb5⟩; refine Hid.out ?_)
      have HR5 := Lib.hid (hr5.up (b0 := w2.heap.size) HB4.out.size)
      have HB5 := Lib.hid (below_more HB4.out hb5)
      clear hr5 hb5
      refine go_on ?_
      go_wp2
      go_ret
      exact ⟨V5, rfl, HR5.out, HB5.out⟩
  obtain ⟨g, cap, hV2, hg1, hg2⟩ := hrow.form h0
  injection hV2 with hV3 _ hV4
  subst hV3 hV4
  obtain ⟨z, hz⟩ : ∃ z, (idsL L)[cn - 1]? = some z := ⟨_, List.getElem?_eq_getElem (by omega)⟩
  have hzl : (idsL L).getLast? = some z := by rw [List.getLast?_eq_getElem?, hlen]; exact hz
  have hzm := (idsL_mem L z).mp (List.mem_of_getLast? hzl)
  have hNz : (N : Int) = z + 1 := by
    have := hzm.1
    rw [← HN.out]; unfold lastN; rw [hzl]
    simp only
    omega
  obtain ⟨p, hp⟩ : ∃ p, p + 1 = cn := ⟨cn - 1, by omega⟩
  have cz : w3.cell? ⟨g, p, none⟩ = some (.int .i64 z) := by
    rw [hrow.cellAt p (by omega)]
    rw [show cn - 1 = p by omega] at hz
    simp [hz]
  have k0 : (0 : Int) < (cn : Int) := by omega
  have k1 : IntKind.i64.wrap ((cn : Int) - 1) = (p : Int) := by rw [IntKind.wrap_i64]; omega
  have k2 : (p : Int) < (cn : Int) := by omega
  have k3 : (0 : Int) ≤ (p : Int) := by omega
  have k4 : IntKind.i64.wrap (z + 1) = (N : Int) := by rw [IntKind.wrap_i64]; have := hzm.1; omega
  have k5 : IntKind.u64.wrap (N : Int) = (N : Int) := by rw [IntKind.wrap_u64]; omega
  have HP := Lib.hid (show Calls Tryd.prog 26 #[.slice none 0 0, .int .i64 4, .bool true, .int .u64 (N : Int)] w3 _ from put_ok true 4 N 0 0 none [] w3 (by omega) (by omega) (by omega) (by omega) Byt.nil)
  have HNL := Lib.hid (show N ≤ 60000 by omega)
  have HNL2 := Lib.hid hle
  clear hrow hb3 hlen hcl hle hz hzl hzm hNz hp hg1 hg2 HI
  go_wp2_with (go_at_call 26; refine HP.out.mono ?_; rintro _ w4 ⟨V, rfl, ho, hb4⟩; refine Hid.out ?_)
  have HR4 := Lib.hid (show RowB w4 w3.heap.size V (digs 4 true N ++ (L.take 0).flatMap slotB) by
    rw [List.take_zero, List.flatMap_nil, List.append_nil]
    exact ⟨by rw [digs_len]; simpa using ho, fun x hx => digs_lt _ _ _ x hx⟩)
  have HB4 := Lib.hid hb4
  clear ho hb4 cz k0 k1 k2 k3 k4 k5
  refine go_on ?_
  go_wp2
  go_loopw [5, 32] (fun b i wr => ∃ (k : Nat), i = .int .i64 k ∧ k ≤ N ∧ RowB wr w3.heap.size b (digs 4 true N ++ (L.take k).flatMap slotB) ∧ Below w3.heap.size w3 wr) (fun _ i _ => N - (RowKit.intOf i).toNat)
  case atStart => exact ⟨0, rfl, Nat.zero_le _, HR4.out, HB4.out⟩
  case round =>
    obtain ⟨k, rfl, hk, hr, hbb⟩ := hrel
    obtain ⟨A5, C5, rfl, hy5⟩ := hr.byt
    have hlen5 : (digs 4 true N ++ (L.take k).flatMap slotB).length ≤ 4 + k * 65541 := by
      rw [List.length_append, digs_len]
      have h1 := flat_len (L.take k) (fun x hx => HSM.out x (List.mem_of_mem_take hx))
      have h2 : (L.take k).length ≤ k := by rw [List.length_take]; omega
      have h3 : (L.take k).length * 65541 ≤ k * 65541 := Nat.mul_le_mul_right _ h2
      omega
    have HL5 := Lib.hid hlen5
    have HR5 := Lib.hid hr
    have HY5 := Lib.hid hy5
    have HB5 := Lib.hid hbb
    have HNL3 := HNL.out
    obtain ⟨ln, hln⟩ : ∃ ln, (digs 4 true N ++ (L.take k).flatMap slotB).length = ln := ⟨_, rfl⟩
    have HLN := Lib.hid hln
    rw [hln] at HL5 HY5 HR5 ⊢
    clear hr hy5 hbb hlen5 HR4 HB4
    by_cases hlt : k < N
    · have hltz : (k : Int) < (N : Int) := by omega
      have hw : IntKind.i64.wrap ((k : Int) + 1) = ((k + 1 : Nat) : Int) := by rw [IntKind.wrap_i64]; omega
      have hkey := keyI (z := (k : Int)) (by omega) (by omega)
      have HH5 := Lib.hid (HH3.out.later HB5.out)
      have HO5 := Lib.hid HH5.out.own
      have c0 : wr.cell? ⟨hb, 0, none⟩ = some (.map (some mb)) := HH5.out.box.cell 0
      have HW := Lib.hid hw
      obtain ⟨o, ho⟩ : ∃ o, L[k]? = some o := ⟨_, List.getElem?_eq_getElem (by have := HNL2.out; omega)⟩
      have HTK := Lib.hid (take_snoc ho)
      clear hw
      rcases o with _ | x
      · have hh := look_no HH5.out (z := (k : Int)) (fun hz => by obtain ⟨_, v, hv⟩ := (idsL_mem _ _).mp hz; simp [ho] at hv)
        have HRL := Lib.hid (HR5.out.below (below_new wr (.cells (by8 [0]).toArray 5)))
        have HYL := Lib.hid (Byt.lit wr [0] (by decide))
        have HAL := Lib.hid (below_new wr (.cells (by8 [0]).toArray 5))
        go_wp2_with (first
          | (at_lookup; refine wpList_lookup_own_ok _ rfl _ _ 24 rfl 3 22 lawI Tryd.underlying24 Rv (zeroB _) (.held (.slice none 0 0)) [] rfl mb _ D rfl HO5.out _ _ rfl hkey ?_; intro v ps hv; clear hv)
          | (at_builtin; refine wp_rowb rfl (.tmp 46) (.tmp 47) rfl w3.heap.size 1 1 _ (digs 4 true N ++ (L.take k).flatMap slotB) [0] (some ⟨wr.heap.size, 0, none⟩) _ rfl rfl HRL.out HYL.out (by have h1 := HL5.out; have h2 := HLN.out; omega) (Nat.le_trans HB5.out.size HAL.out.size) ?_; intro V6 w6 hr6 hb6; refine Hid.out ?_))
        have HR6 := Lib.hid (show RowB w6 w3.heap.size V6 (digs 4 true N ++ (L.take (k + 1)).flatMap slotB) by rw [HTK.out, ← List.append_assoc]; exact hr6)
        have HB6 := Lib.hid (HB5.out.trans ((HAL.out.mono HB5.out.size).trans hb6))
        clear hr6 hb6 hkey hh c0
        refine go_on ?_
        go_wp2
        go_roundw
        case rel => exact ⟨k + 1, by go_num, by omega, HR6.out, HB6.out⟩
        case measure => simp [RowKit.intOf]; omega
      · obtain ⟨A, m, c, hh, hv, hc, hm, hy⟩ := look_yes HH3.out ho
        have HV := Lib.hid hv
        have HYX := Lib.hid hy
        have HM := Lib.hid hm
        have HRL := Lib.hid (HR5.out.below (below_new wr (.cells (by8 [1]).toArray 5)))
        have HYL := Lib.hid (Byt.lit wr [1] (by decide))
        have HAL := Lib.hid (below_new wr (.cells (by8 [1]).toArray 5))
        clear hv hy hm hc
        go_wp2_with (first
          | (at_lookup; refine wpList_lookup_own_ok _ rfl _ _ 24 rfl 3 22 lawI Tryd.underlying24 Rv (zeroB _) (.held (.slice none 0 0)) [] rfl mb _ D rfl HO5.out _ _ rfl hkey ?_; intro v ps hv; obtain rfl := HV.out v ps hv; clear hv)
          | (at_builtin; refine wp_rowb rfl (.tmp 50) (.tmp 51) rfl w3.heap.size 1 1 _ (digs 4 true N ++ (L.take k).flatMap slotB) [1] (some ⟨wr.heap.size, 0, none⟩) _ rfl rfl HRL.out HYL.out (by have h1 := HL5.out; have h2 := HLN.out; omega) (Nat.le_trans HB5.out.size HAL.out.size) ?_; intro V6 w6 hr6 hb6; refine Hid.out ?_))
        have HB6 := Lib.hid (HB5.out.trans ((HAL.out.mono HB5.out.size).trans hb6))
        have HYX6 := Lib.hid ((HYX.out.later HB6.out).up HB6.out.size)
        obtain ⟨A6, C6, rfl, hy6⟩ := hr6.byt
        obtain ⟨l6, hl6⟩ : ∃ l6, ((digs 4 true N ++ (L.take k).flatMap slotB) ++ [1]).length = l6 := ⟨_, rfl⟩
        have hl6b : l6 = ln + 1 := by rw [← hl6, List.length_append, HLN.out]; rfl
        have HPB := Lib.hid (putBytes_ok ((digs 4 true N ++ (L.take k).flatMap slotB) ++ [1]).length C6 m c A6 A ((digs 4 true N ++ (L.take k).flatMap slotB) ++ [1]) x w6 HM.out (by rw [hl6]; have h1 := HL5.out; omega) hy6 HYX6.out)
        rw [hl6] at HPB ⊢
        have HL6 := Lib.hid hl6
        clear hr6 hb6 hy6 hl6 hl6b hkey hh c0
        refine go_on ?_
        go_wp2_with (go_at_call 27; refine HPB.out.mono ?_; rintro _ w7 ⟨V7, rfl, ho7, hb7⟩; refine Hid.out ?_)
        have HR7 := Lib.hid (show RowB w7 w3.heap.size V7 (digs 4 true N ++ (L.take (k + 1)).flatMap slotB) by
          have e : digs 4 true N ++ (L.take (k + 1)).flatMap slotB = (digs 4 true N ++ (L.take k).flatMap slotB) ++ [1] ++ digs 4 true m ++ x := by
            rw [HTK.out]
            simp [slotB, HYX.out.len]
          rw [e]
          refine RowB.up ⟨?_, ?_⟩ HB6.out.size
          · have e2 : (((digs 4 true N ++ (L.take k).flatMap slotB) ++ [1]) ++ digs 4 true m ++ x).length = l6 + 4 + m := by rw [List.length_append, List.length_append, HL6.out, digs_len, HYX.out.len]
            rw [e2]; exact ho7
          · exact lt_app (lt_app (lt_app HR5.out.lt (by decide)) (digs_lt _ _ _)) HYX.out.lt)
        have HB7 := Lib.hid (below_more HB6.out hb7)
        clear ho7 hb7
        refine go_on ?_
        go_wp2
        go_roundw
        case rel => exact ⟨k + 1, by go_num, by omega, HR7.out, HB7.out⟩
        case measure => simp [RowKit.intOf]; omega
    · obtain rfl : k = N := by omega
      have HSL := Lib.hid (HDN.out wr HB5.out A5 C5 (digs 4 true k ++ (L.take k).flatMap slotB) (by rw [HLN.out]; have := HL5.out; omega) (by rw [HLN.out]; exact HY5.out))
      rw [HLN.out] at HSL
      have HB6 := Lib.hid (below_more HB3.out HB5.out)
      have HE := Lib.hid (show digs 4 true k ++ (L.take k).flatMap slotB = heapB L by unfold heapB; rw [HN.out])
      go_wp2_with (go_at_call 28; refine HSL.out.mono ?_; rintro _ w5 ⟨V5, rfl, hr5, hb5⟩; refine Hid.out ?_)
      rw [HE.out] at hr5
      have HR6 := Lib.hid (hr5.up (b0 := w2.heap.size) HB6.out.size)
      have HB7 := Lib.hid (below_more HB6.out hb5)
      clear hr5 hb5
      refine go_on ?_
      go_wp2
      go_ret
      exact ⟨V5, rfl, HR6.out, HB7.out⟩
end
end Go.Proofs.YtpajimkebnfneaaDoor.X5
