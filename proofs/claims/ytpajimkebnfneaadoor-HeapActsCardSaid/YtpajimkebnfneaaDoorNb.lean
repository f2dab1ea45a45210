/- A heap in memory; what its calls do: New, Len, Get, Drop, Add, Ids. -/
import Derived.Test.YtpajimkebnfneaaDoorNa
import Derived.Test.YtpajimkebnfneaaDoorKcd
import Derived.Deep.RegionLaw
import Derived.WalkKit
import Derived.Maps.OwnOps
namespace Go.Proofs.YtpajimkebnfneaaDoor.X5
set_option linter.unusedVariables false
set_option linter.unusedSimpArgs false
open Go.RowKit Go.Maps Wd Ty9

theorem lawI : Keyed Tryd.prog 3 := int_keyed Tryd.underlying3
theorem zeroB (w : World) : (zeroValue 22).run Tryd.prog w = .ok (.slice none 0 0) w := by kernel_rfl
/-- A map's elements, read as they are. -/
def Rv (v : Value) : Option (DataW Value × List MemPlace) := some (.held v, [])
theorem keyI {z : Int} (h0 : -9223372036854775808 ≤ z) (h1 : z ≤ 9223372036854775807) : keyOf Tryd.prog 3 (.int .i64 z) = some (.int .i64 z) := by
  refine keyOf_int_mk Tryd.underlying3 ?_
  simp [Lit.wf, IntKind.min, IntKind.max, IntKind.bits, IntKind.signed]
  omega
theorem own_tight {w : World} {b n : Nat} {D : DataW Value} (h : w.ownsMap Tryd.prog 3 Rv b n D) : w.ownsMap Tryd.prog 3 Rv b (Maps.size D) D := by
  obtain ⟨es, clock, hb, hf, hn, rfl⟩ := h
  exact ⟨es, clock, hb, hf, by rw [size_eq, length_read]; exact Nat.le_refl _, rfl⟩
theorem own_keep {w w' : World} {b n : Nat} {D : DataW Value} (h : w.ownsMap Tryd.prog 3 Rv b n D) (hk : w'.heap[b]? = w.heap[b]?) : w'.ownsMap Tryd.prog 3 Rv b n D := by
  obtain ⟨es, clock, hb, h2⟩ := h
  exact ⟨es, clock, hk.trans hb, h2⟩

/-- A heap with the things L, in the blocks S; its box lies in block hb, its map in block mb. -/
structure HpR (w : World) (S : Nat → Prop) (hb mb : Nat) (D : DataW Value) (Lv : List (Option Value)) (L : List (Option (List Nat))) : Prop where
  box : Bx w hb 26 #[.map (some mb)]
  own : w.ownsMap Tryd.prog 3 Rv mb (cntL Lv) D
  is_ : MapIs D Lv
  len : Lv.length = L.length
  sh : S hb
  sm : S mb
  ne : hb ≠ mb
  sb : ∀ k, S k → k < w.heap.size
  row : ∀ (i : Nat) (x : List Nat), L[i]? = some (some x) → ∃ A m c, Lv[i]? = some (some (Value.slice A m c)) ∧ m ≤ c ∧ m ≤ 65536 ∧ Byt w w.heap.size A m x ∧ ∀ b o, 0 < m → A = some ⟨b, o, none⟩ → S b ∧ b ≠ mb
  no : ∀ (i : Nat), L[i]? = some none → Lv[i]? = some none
def Hp (w : World) (S : Nat → Prop) (hb : Nat) (L : List (Option (List Nat))) : Prop := ∃ mb D Lv, HpR w S hb mb D Lv L

section
variable {w w' : World} {S S' : Nat → Prop} {hb mb : Nat} {D : DataW Value} {Lv : List (Option Value)} {L : List (Option (List Nat))}
theorem HpR.keep (h : HpR w S hb mb D Lv L) (hk : ∀ k, S k → w'.heap[k]? = w.heap[k]?) (hs : w.heap.size ≤ w'.heap.size) : HpR w' S hb mb D Lv L := by
  refine ⟨(hk _ h.sh).trans h.box, own_keep h.own (hk _ h.sm), h.is_, h.len, h.sh, h.sm, h.ne, fun k hk2 => Nat.lt_of_lt_of_le (h.sb k hk2) hs, fun i x hx => ?_, h.no⟩
  obtain ⟨A, m, c, h1, h2, h3, h4, h5⟩ := h.row i x hx
  refine ⟨A, m, c, h1, h2, h3, ⟨h4.len, h4.lt, fun hm => ?_⟩, h5⟩
  obtain ⟨b, o, e, hlt, hc⟩ := h4.at_ hm
  exact ⟨b, o, e, Nat.lt_of_lt_of_le hlt hs, fun j hj => (World.cell?_of_block (w := w) (a := ⟨b, o + j, none⟩) (hk b (h5 b o hm e).1)).trans (hc j hj)⟩
theorem HpR.later (h : HpR w S hb mb D Lv L) (hbe : Below w.heap.size w w') : HpR w' S hb mb D Lv L := h.keep (fun k hk => hbe.block k (h.sb k hk)) hbe.size
theorem HpR.drew (h : HpR w S hb mb D Lv L) : HpR w.drew S hb mb D Lv L := h.keep (fun _ _ => rfl) (Nat.le_refl _)
theorem Hp.keep (h : Hp w S hb L) (hk : ∀ k, S k → w'.heap[k]? = w.heap[k]?) (hs : w.heap.size ≤ w'.heap.size) : Hp w' S hb L := by
  obtain ⟨mb, D, Lv, h⟩ := h
  exact ⟨mb, D, Lv, h.keep hk hs⟩
theorem Hp.later (h : Hp w S hb L) (hbe : Below w.heap.size w w') : Hp w' S hb L := by
  obtain ⟨mb, D, Lv, h⟩ := h
  exact ⟨mb, D, Lv, h.later hbe⟩
theorem HpR.idsL_eq (h : HpR w S hb mb D Lv L) : ∀ z : Int, z ∈ idsL Lv ↔ z ∈ idsL L := fun z => by
  rw [idsL_mem, idsL_mem]
  have hl := h.len
  constructor
  · rintro ⟨h0, v, hv⟩
    have hi := (List.getElem?_eq_some_iff.mp hv).1
    refine ⟨h0, ?_⟩
    rcases hx : L[z.toNat]'(by omega) with _ | x
    · have := h.no z.toNat (by rw [List.getElem?_eq_getElem (by omega), hx])
      rw [hv] at this
      cases this
    · exact ⟨x, by rw [List.getElem?_eq_getElem (by omega), hx]⟩
  · rintro ⟨h0, x, hx⟩
    obtain ⟨A, m, c, h1, _⟩ := h.row _ _ hx
    exact ⟨h0, _, h1⟩
theorem HpR.none_iff (h : HpR w S hb mb D Lv L) (i : Nat) : (∀ v, Lv[i]? ≠ some (some v)) ↔ ∀ x, L[i]? ≠ some (some x) := by
  have h1 := h.idsL_eq (i : Int)
  rw [idsL_mem, idsL_mem] at h1
  simp only [Int.toNat_natCast] at h1
  constructor
  · intro hv x hx
    obtain ⟨_, v, h2⟩ := h1.mpr ⟨by omega, x, hx⟩
    exact hv v h2
  · intro hx v hv
    obtain ⟨_, x, h2⟩ := h1.mp ⟨by omega, v, hv⟩
    exact hx x h2
theorem cnt_same {α β : Type} : ∀ (l : List (Option α)) (k : List (Option β)), l.length = k.length → (∀ i : Nat, (∀ v : α, l[i]? ≠ some (some v)) ↔ ∀ x : β, k[i]? ≠ some (some x)) → cntL l = cntL k ∧ hole l = hole k ∧ ∀ n, idsA n l = idsA n k
  | [], [], _, _ => ⟨rfl, rfl, fun _ => rfl⟩
  | [], _ :: _, h, _ => by simp at h
  | _ :: _, [], h, _ => by simp at h
  | x :: l, y :: k, h, hi => by
    have ih := cnt_same l k (by simpa using h) fun i => by simpa using hi (i + 1)
    have h0 := hi 0
    cases x <;> cases y
    · exact ⟨by simpa [cntL] using ih.1, rfl, fun n => by simpa [idsA] using ih.2.2 (n + 1)⟩
    · simp at h0
    · simp at h0
    · exact ⟨by simpa [cntL] using ih.1, by simpa [hole] using ih.2.1, fun n => by simpa [idsA] using ih.2.2 (n + 1)⟩
theorem HpR.same (h : HpR w S hb mb D Lv L) : cntL Lv = cntL L ∧ hole Lv = hole L ∧ idsL Lv = idsL L := by
  obtain ⟨h1, h2, h3⟩ := cnt_same Lv L h.len h.none_iff
  exact ⟨h1, h2, h3 0⟩
end

/-! ### the calls -/
theorem good_any (hb : Nat) (m : Option Nat) (w : World) (hB : Bx w hb 26 #[.map m]) : Calls Tryd.prog 22 #[.pointer (some ⟨hb, 0, none⟩)] w fun e w' => e = .returned (.bool m.isSome) ∧ w' = w := by
  have c0 := hB.cell 0
  have hn : (binOp .neq 24 (.map m) (.map none)).run Tryd.prog w = .ok (.bool m.isSome) w := by
    cases m <;> kernel_rfl
  clear hB
  go_enter Tryd.func22, Tryd.ntmps22
  go_wp2
  go_ret
  exact ⟨rfl, rfl⟩
theorem good_nil (w : World) : Calls Tryd.prog 22 #[.pointer none] w fun e w' => e = .returned (.bool false) ∧ w' = w := by
  go_enter Tryd.func22, Tryd.ntmps22
  go_wp2
  go_ret
  exact ⟨rfl, rfl⟩
theorem new_any (w : World) : Calls Tryd.prog 17 #[] w fun e w' => ∃ hb S, e = .returned (.pointer (some ⟨hb, 0, none⟩)) ∧ Hp w' S hb [] ∧ (∀ k, S k → w.heap.size ≤ k) ∧ Below w.heap.size w w' := by
  have hmm := @run_makeMap Tryd.prog
  have hown := World.ownsMap_made (H := Value) w Tryd.prog 3 Rv
  have HN := Lib.hid (below_new w (.map #[] 0))
  go_enter Tryd.func17, Tryd.ntmps17
  go_wp2
  go_ret
  have hn2 := below_new (w.alloc (.map #[] 0)) (.cells #[.map (some w.heap.size)] 26)
  have hs1 := size_alloc w (.map #[] 0)
  refine ⟨w.heap.size + 1, fun k => k = w.heap.size ∨ k = w.heap.size + 1, rfl, ⟨w.heap.size, .map [], [], ?_, own_keep hown (hn2.block _ (by rw [hs1]; exact Nat.lt_succ_self _)), MapIs.empty, rfl, .inr rfl, .inl rfl, by omega, fun k hk => ?_, fun i x hx => by simp at hx, fun i hi => by simp at hi⟩, fun k hk => by omega, below_more HN.out hn2⟩
  · have h := Bx.new (w.alloc (.map #[] 0)) 26 #[.map (some w.heap.size)]
    rw [hs1] at h
    exact h
  · rw [size_alloc, hs1]; omega
theorem good_yes (hb mb : Nat) (w : World) (hB : Bx w hb 26 #[.map (some mb)]) : Calls Tryd.prog 22 #[.pointer (some ⟨hb, 0, none⟩)] w fun e w' => e = .returned (.bool true) ∧ w' = w := good_any hb (some mb) w hB
theorem good_no (hb : Nat) (w : World) (hB : Bx w hb 26 #[.map none]) : Calls Tryd.prog 22 #[.pointer (some ⟨hb, 0, none⟩)] w fun e w' => e = .returned (.bool false) ∧ w' = w := good_any hb none w hB

section
variable {w : World} {S : Nat → Prop} {hb mb : Nat} {D : DataW Value} {Lv : List (Option Value)} {L : List (Option (List Nat))}
theorem len_any (h : HpR w S hb mb D Lv L) : Calls Tryd.prog 11 #[.pointer (some ⟨hb, 0, none⟩)] w fun e w' => e = .returned (.int .i64 (cntL L)) ∧ w' = w := by
  have c0 := h.box.cell 0
  have HO := Lib.hid h.own
  have hsz : Maps.size D = cntL L := h.is_.size.trans h.same.1
  have HG := Lib.hid (good_yes hb mb w h.box)
  clear h
  go_enter Tryd.func11, Tryd.ntmps11
  go_wp2_with (first
    | (go_at_call 22; refine HG.out.mono ?_; rintro _ w2 ⟨rfl, rfl⟩)
    | (at_len; refine wpList_len_own _ rfl _ 24 rfl 3 22 Tryd.underlying24 _ mb _ D rfl HO.out ?_))
  go_ret
  exact ⟨rfl, rfl⟩

/-- What a look-up tells. -/
theorem look_yes (h : HpR w S hb mb D Lv L) {i : Nat} {x : List Nat} (hx : L[i]? = some (some x)) : ∃ A m c, Maps.has D (.int .i64 (i : Int)) = true ∧ (∀ v ps, Rv v = some (D.atKey (.int .i64 (i : Int)) (.held (.slice none 0 0)), ps) → v = .slice A m c) ∧ m ≤ c ∧ m ≤ 65536 ∧ Byt w w.heap.size A m x := by
  obtain ⟨A, m, c, h1, h2, h3, h4, h5⟩ := h.row i x hx
  refine ⟨A, m, c, (h.is_.has _).mpr ((idsL_mem _ _).mpr ⟨by omega, _, by simpa using h1⟩), fun v ps hv => ?_, h2, h3, h4⟩
  rw [h.is_.at_ i _ h1] at hv
  simp [Rv] at hv
  exact hv.1
theorem look_no (h : HpR w S hb mb D Lv L) {z : Int} (hz : z ∉ idsL L) : Maps.has D (.int .i64 z) = false := by
  cases e : Maps.has D (.int .i64 z)
  · rfl
  · exact absurd (h.same.2.2 ▸ (h.is_.has z).mp e) hz

theorem get_yes (h : HpR w S hb mb D Lv L) {i : Nat} {x : List Nat} (hx : L[i]? = some (some x)) (hi : i ≤ 60000) :
    Calls Tryd.prog 9 #[.pointer (some ⟨hb, 0, none⟩), .int .i64 (i : Int)] w fun e w' => ∃ V, e = .returned (.tuple #[V, .int .i64 0]) ∧ RowB w' w.heap.size V x ∧ Below w.heap.size w w' := by
  have c0 := h.box.cell 0
  have HO := Lib.hid h.own
  have HG := Lib.hid (good_yes hb mb w h.box)
  obtain ⟨A, m, c, hh, hv, hc, hm, hy⟩ := look_yes h hx
  have hkey := keyI (z := (i : Int)) (by omega) (by omega)
  have HV := Lib.hid hv
  have HC := Lib.hid (cloneb_any A m c x w (by omega) hy)
  generalize (i : Int) = z at *
  clear h hx hv hy hc hm
  go_enter Tryd.func9, Tryd.ntmps9
  go_wp2_with (first
    | (go_at_call 22; refine HG.out.mono ?_; rintro _ w2 ⟨rfl, rfl⟩)
    | (at_lookup; refine wpList_lookup_own_ok _ rfl _ _ 24 rfl 3 22 lawI Tryd.underlying24 Rv (zeroB _) (.held (.slice none 0 0)) [] rfl mb _ D rfl HO.out _ _ rfl hkey ?_; intro v ps hv; obtain rfl := HV.out v ps hv; clear hv)
    | (go_at_call 23; refine HC.out.mono ?_; rintro _ w3 ⟨V, rfl, hrow, hb3⟩))
  go_ret2
  exact ⟨V, rfl, hrow, hb3⟩
theorem get_no (h : HpR w S hb mb D Lv L) {z : Int} (hz : z ∉ idsL L) (h0 : -9223372036854775808 ≤ z) (h1 : z ≤ 9223372036854775807) :
    Calls Tryd.prog 9 #[.pointer (some ⟨hb, 0, none⟩), .int .i64 z] w fun e w' => e = .returned (.tuple #[.slice none 0 0, .int .i64 10]) ∧ w' = w := by
  have c0 := h.box.cell 0
  have HO := Lib.hid h.own
  have HG := Lib.hid (good_yes hb mb w h.box)
  have hh := look_no h hz
  have hkey := keyI (z := z) h0 h1
  clear h hz h0 h1
  go_enter Tryd.func9, Tryd.ntmps9
  go_wp2_with (first
    | (go_at_call 22; refine HG.out.mono ?_; rintro _ w2 ⟨rfl, rfl⟩)
    | (at_lookup; refine wpList_lookup_own_ok _ rfl _ _ 24 rfl 3 22 lawI Tryd.underlying24 Rv (zeroB _) (.held (.slice none 0 0)) [] rfl mb _ D rfl HO.out _ _ rfl hkey ?_; intro v ps hv; clear hv))
  go_ret2
  exact ⟨rfl, rfl⟩
theorem drop_no (h : HpR w S hb mb D Lv L) {z : Int} (hz : z ∉ idsL L) (h0 : -9223372036854775808 ≤ z) (h1 : z ≤ 9223372036854775807) :
    Calls Tryd.prog 10 #[.pointer (some ⟨hb, 0, none⟩), .int .i64 z] w fun e w' => e = .returned (.int .i64 10) ∧ w' = w := by
  have c0 := h.box.cell 0
  have HO := Lib.hid h.own
  have HG := Lib.hid (good_yes hb mb w h.box)
  have hh := look_no h hz
  have hkey := keyI (z := z) h0 h1
  clear h hz h0 h1
  go_enter Tryd.func10, Tryd.ntmps10
  go_wp2_with (first
    | (go_at_call 22; refine HG.out.mono ?_; rintro _ w2 ⟨rfl, rfl⟩)
    | (at_lookup; refine wpList_lookup_own_ok _ rfl _ _ 24 rfl 3 22 lawI Tryd.underlying24 Rv (zeroB _) (.held (.slice none 0 0)) [] rfl mb _ D rfl HO.out _ _ rfl hkey ?_; intro v ps hv; clear hv))
  go_ret
  exact ⟨rfl, rfl⟩
theorem grown_keep {w w' : World} {mb k : Nat} (h : w.grownBy w' (some mb)) (hk : k < w.heap.size) (hn : k ≠ mb) : w'.heap[k]? = w.heap[k]? := h.block k hk (fun e => hn (by injection e))
/-- The map's block has turned. -/
theorem HpR.turned {w' : World} {D' : DataW Value} {Lv' : List (Option Value)} {L' : List (Option (List Nat))} {n' : Nat} (h : HpR w S hb mb D Lv L) (hg : w.grownBy w' (some mb)) (ho : w'.ownsMap Tryd.prog 3 Rv mb n' D') (hi : MapIs D' Lv') (hl : Lv'.length = L'.length)
    {S' : Nat → Prop} (hS : ∀ k, S k → S' k) (hSb : ∀ k, S' k → k < w'.heap.size)
    (hrow : ∀ (i : Nat) (x : List Nat), L'[i]? = some (some x) → (L[i]? = some (some x) ∧ Lv'[i]? = Lv[i]?) ∨ ∃ A m c, Lv'[i]? = some (some (Value.slice A m c)) ∧ m ≤ c ∧ m ≤ 65536 ∧ Byt w' w'.heap.size A m x ∧ ∀ b o, 0 < m → A = some ⟨b, o, none⟩ → S' b ∧ b ≠ mb) (hno : ∀ (i : Nat), L'[i]? = some none → Lv'[i]? = some none) :
    HpR w' S' hb mb D' Lv' L' := by
  have hk : ∀ k, S k → k ≠ mb → w'.heap[k]? = w.heap[k]? := fun k h1 h2 => grown_keep hg (h.sb k h1) h2
  refine ⟨(hk _ h.sh h.ne).trans h.box, ?_, hi, hl, hS _ h.sh, hS _ h.sm, h.ne, hSb, fun i x hx => ?_, hno⟩
  · have := own_tight ho
    rwa [hi.size] at this
  · rcases hrow i x hx with ⟨h1, h2⟩ | h1
    · obtain ⟨A, m, c, e1, e2, e3, e4, e5⟩ := h.row i x h1
      refine ⟨A, m, c, h2.trans e1, e2, e3, ⟨e4.len, e4.lt, fun hm => ?_⟩, fun b o hm e => ⟨hS _ (e5 b o hm e).1, (e5 b o hm e).2⟩⟩
      obtain ⟨b, o, e, hlt, hc⟩ := e4.at_ hm
      exact ⟨b, o, e, Nat.lt_of_lt_of_le hlt hg.size, fun j hj => (World.cell?_of_block (w := w) (a := ⟨b, o + j, none⟩) (hk b (e5 b o hm e).1 (e5 b o hm e).2)).trans (hc j hj)⟩
    · exact h1
theorem drop_yes (h : HpR w S hb mb D Lv L) {i : Nat} {x : List Nat} (hx : L[i]? = some (some x)) (hi : i ≤ 60000) :
    Calls Tryd.prog 10 #[.pointer (some ⟨hb, 0, none⟩), .int .i64 (i : Int)] w fun e w' => e = .returned (.int .i64 0) ∧ (∃ D' Lv', HpR w' S hb mb D' Lv' (L.set i none)) ∧ w.grownBy w' (some mb) := by
  have c0 := h.box.cell 0
  have HO := Lib.hid h.own
  have HG := Lib.hid (good_yes hb mb w h.box)
  obtain ⟨A, m, c, hh, hv, hc, hm, hy⟩ := look_yes h hx
  have hkey := keyI (z := (i : Int)) (by omega) (by omega)
  have HH := Lib.hid h
  have HX := Lib.hid hx
  obtain ⟨z, hz⟩ : ∃ z : Int, z = (i : Int) := ⟨_, rfl⟩
  have HZ := Lib.hid hz
  rw [← hz] at hh hkey ⊢
  clear h hx hv hy hc hm hz
  go_enter Tryd.func10, Tryd.ntmps10
  go_wp2_with (first
    | (go_at_call 22; refine HG.out.mono ?_; rintro _ w2 ⟨rfl, rfl⟩)
    | (at_lookup; refine wpList_lookup_own_ok _ rfl _ _ 24 rfl 3 22 lawI Tryd.underlying24 Rv (zeroB _) (.held (.slice none 0 0)) [] rfl mb _ D rfl HO.out _ _ rfl hkey ?_; intro v ps hv; clear hv)
    | (at_delete; refine wpList_delete_own _ rfl _ _ 24 3 rfl 22 lawI Tryd.underlying24 Rv mb _ D rfl HO.out _ _ rfl hkey ?_; intro w3 hown3 hturn3))
  go_ret
  have hz := HZ.out
  subst hz
  have h := HH.out
  obtain ⟨A', m', c', e1, _⟩ := h.row i x HX.out
  refine ⟨rfl, ⟨_, Lv.set i none, h.turned hturn3.grown hown3 (h.is_.del e1) (by simp [h.len]) (fun _ h => h) (fun k hk => Nat.lt_of_lt_of_le (h.sb k hk) hturn3.grown.size) (fun j y hj => ?_) (fun j hj => ?_)⟩, hturn3.grown⟩
  · left
    rw [List.getElem?_set] at hj
    by_cases e : i = j
    · subst e; rw [if_pos rfl] at hj; split at hj <;> simp at hj
    · rw [if_neg e] at hj
      exact ⟨hj, by rw [List.getElem?_set, if_neg e]⟩
  · rw [List.getElem?_set] at hj ⊢
    by_cases e : i = j
    · subst e
      have hlt : i < L.length := (List.getElem?_eq_some_iff.mp HX.out).1
      rw [if_pos rfl, if_pos (by rw [h.len]; exact hlt)]
    · rw [if_neg e] at hj ⊢
      exact h.no j hj
end
end Go.Proofs.YtpajimkebnfneaaDoor.X5
