/- A heap's Ids: maps.Keys, slices.Sorted. -/
import Derived.Test.YtpajimkebnfneaaDoorNc
import Derived.Test.YtpajimkebnfneaaDoorNs
namespace Go.Proofs.YtpajimkebnfneaaDoor.X5
set_option linter.unusedVariables false
set_option linter.unusedSimpArgs false
open Go.RowKit Go.Maps Go.Sort Go.Shelf Wd Ty9

theorem sortsI (m : Nat) : AnyZI.SortsIn Tryd.prog Sh.laySorted_ren Fence.wide m :=
  ⟨fun blk off cap ss W hH hblk hsz => callsIn_wide.2 (AnyM.slices_Sort_int Sh.laySort blk off cap ss W hH hblk hsz),
   fun p cap W => callsIn_wide.2 (AnyM.slices_Sort_int_none Sh.laySort p cap W)⟩
theorem keys_any (mb : Option Nat) (W : World) : Calls Tryd.prog 25 #[.map mb] W fun e w' =>
    e = .returned (.func (.func 37) #[] #[.pointer (some ⟨W.heap.size, 0, none⟩)]) ∧ w' = W.alloc (.cells #[.map mb] 24) :=
  (callsIn_wide (n := 5)).1 (AnyZI.keys_in Sh.layKeys Fence.wide 5 trivial rfl mb W)
set_option maxHeartbeats 1000000 in
theorem sorted_any (b nn : Nat) (D0 : DataW Value) (w : World) (hown : w.ownsMap Tryd.prog 3 Rv b nn D0) (hmax : Maps.size D0 ≤ maxLen) (hbytes : Maps.size D0 * 8 ≤ 140737488355328) :
    Calls Tryd.prog 24 #[.func (.func 37) #[] #[.pointer (some ⟨w.heap.size, 0, none⟩)]] (w.alloc (.cells #[.map (some b)] 24)) fun e w' => ∃ (v : Value) (ss : List Int), e = .returned v ∧ ss.Perm (intKeys D0) ∧
      w'.ownsRow w.heap.size 3 1 v ss.length ((ss.mergeSort (fun x y => decide (x ≤ y))).map encZ) ∧ Below w.heap.size w w' := by
  have hbl := hown.lt
  have hseq : SeqGives Fence.wide 2 Tryd.prog 37 #[.pointer (some ⟨w.heap.size, 0, none⟩)] encZ (fun ss => ss.Perm (intKeys D0)) (Maps.size D0) (w.alloc (.cells #[.map (some b)] 24)) :=
    AnyZI.keys_gives (ρ := Sh.layKeys_ren) { Sh.layKeys with } Fence.wide _ trivial rfl (by omega) w.heap.size b nn D0 _ (by simp) (by simp) (by
      obtain ⟨es, clock, hb, Ft, hs, hD⟩ := hown
      exact ⟨es, clock, (Below.heap_alloc _ _ b hbl).trans hb, Ft, hs, hD⟩)
  have cS := AnyZI.sorted_in Sh.laySorted Fence.wide 5 trivial trivial trivial trivial rfl (by omega) (sortsI _) (enters_of Tryd.func36 (by kernel_rfl) rfl) 37 #[.pointer (some ⟨w.heap.size, 0, none⟩)] trivial (enters_of Tryd.func37 (by kernel_rfl) rfl) _ _ hmax hbytes _ hseq
  change CallsIn _ _ Tryd.prog 24 _ _ _ at cS
  refine (callsIn_wide (n := 5)).1 (cS.mono ?_)
  rintro e w' ⟨v, ss, rfl, hS, hrow, hnil, hb⟩
  exact ⟨v, ss, rfl, hS, ownsRow_base_a hrow (by simp), ((Below.refl _ w).alloc (Nat.le_refl _) _).trans (hb.mono (by simp))⟩

section
variable {w : World} {S : Nat → Prop} {hb mb : Nat} {D : DataW Value} {Lv : List (Option Value)} {L : List (Option (List Nat))}
theorem ids_any (h : HpR w S hb mb D Lv L) (hl : L.length ≤ 60000) :
    Calls Tryd.prog 12 #[.pointer (some ⟨hb, 0, none⟩)] w fun e w' => ∃ V, e = .returned V ∧ w'.ownsRow w.heap.size 3 1 V (cntL L) ((idsL L).map (Value.int .i64)) ∧ Below w.heap.size w w' := by
  have c0 : w.cell? ⟨hb, 0, none⟩ = some (.map (some mb)) := h.box.cell 0
  have HG := Lib.hid (good_yes hb mb w h.box)
  have hsz : Maps.size D = cntL L := h.is_.size.trans h.same.1
  have hcl := cntL_le L
  have HS := Lib.hid (sorted_any mb _ D w h.own (by unfold maxLen; omega) (by omega))
  have HK := Lib.hid (fun (ss : List Int) (hp : ss.Perm (intKeys D)) => (h.is_.keys hp).trans h.same.2.2)
  have HK2 := Lib.hid (keys_any (some mb) w)
  clear h hsz hcl
  go_enter Tryd.func12, Tryd.ntmps12
  go_wp2_with (first
    | (go_at_call 22; refine HG.out.mono ?_; rintro _ w2 ⟨rfl, rfl⟩)
    | (go_at_call 25; refine HK2.out.mono ?_; rintro e w' ⟨rfl, rfl⟩)
    | (go_at_call 24; refine HS.out.mono ?_; rintro e w' ⟨v, ss, rfl, hp, hrow, hb⟩))
  go_ret
  have he := HK.out ss hp
  have hlen : ss.length = cntL L := by rw [← idsL_len, ← he, List.length_mergeSort]
  refine ⟨v, rfl, ?_, hb⟩
  rw [← hlen, ← he]
  exact hrow
end
end Go.Proofs.YtpajimkebnfneaaDoor.X5
