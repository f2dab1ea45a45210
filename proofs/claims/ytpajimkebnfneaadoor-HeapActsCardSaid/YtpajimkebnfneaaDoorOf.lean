/- Bytes as strings. -/
import Derived.Test.YtpajimkebnfneaaDoorOa
import Derived.Lib.ConvBytes
import Derived.Laws.BytesArg
import Derived.Lib.SlicesS
import Derived.Lib.Bytealg
import Derived.Lib.IndexLaws
namespace Go.Proofs.YtpajimkebnfneaaDoor.Ty9
set_option linter.unusedVariables false
set_option linter.unusedSimpArgs false
open Go.RowKit Wd

def sbytes (s : ByteArray) : List Nat := s.data.toList.map UInt8.toNat
theorem sbytes_len (s : ByteArray) : (sbytes s).length = s.size := by
  unfold sbytes; rw [List.length_map, Array.length_toList]; rfl
theorem sbytes_lt (s : ByteArray) : ∀ x ∈ sbytes s, x < 256 := by
  intro x hx
  unfold sbytes at hx
  rw [List.mem_map] at hx
  obtain ⟨y, _, rfl⟩ := hx
  exact y.toNat_lt
theorem conv_string (W : World) (s : ByteArray) : ∃ W' C, (convert 9 22 (.string s)).run Tryd.prog W = .ok (.slice (some ⟨W.heap.size, 0, none⟩) s.size C) W' ∧
    Byt W' (W.heap.size + 1) (some ⟨W.heap.size, 0, none⟩) s.size (sbytes s) ∧ Below W.heap.size W W' ∧ W'.heap.size = W.heap.size + 1 := by
  refine ⟨_, _, Lib.run_convert_string_bytes W 9 22 5 s Tryd.underlying9 Tryd.underlying22 Tryd.underlying5, ⟨sbytes_len s, sbytes_lt s, fun _ => ⟨_, 0, rfl, Nat.lt_succ_self _, fun j hj => ?_⟩⟩, ?_, Lib.bytesWorld_size W 5 s⟩
  · rw [sbytes_len] at hj
    rw [Nat.zero_add, Lib.bytesWorld_cell W 5 s j hj]
    congr 2
    have hj2 : j < s.data.toList.length := by rw [Array.length_toList]; exact hj
    simp [sbytes, List.getD_eq_getElem?_getD, List.getElem?_eq_getElem hj2]
  · exact ⟨rfl, rfl, rfl, by rw [Lib.bytesWorld_size]; omega, fun k hk => Lib.bytesWorld_at_old W 5 s k hk⟩

def strOf (bs : List Nat) : ByteArray := ⟨(bs.map UInt8.ofNat).toArray⟩
theorem strOf_nums (bs : List Nat) : strOfNums (bs.map fun (n : Nat) => (n : Int)) = strOf bs := by
  simp [strOfNums, strOf, Function.comp_def]
theorem conv_bytes {W : World} {B : Nat} {A : Option Addr} {m : Nat} {bs : List Nat} (h : Byt W B A m bs) (c : Nat) : (convert 22 9 (.slice A m c)).run Tryd.prog W = .ok (.string (strOf bs)) W := by
  have hl := h.len
  rcases A with _ | ad
  · have hm : m = 0 := by
      rcases Nat.eq_zero_or_pos m with h0 | h0
      · exact h0
      · obtain ⟨b, o, e, _⟩ := h.at_ h0; cases e
    subst hm
    obtain rfl : bs = [] := List.eq_nil_of_length_eq_zero hl
    exact run_convert_bytes_nil (P := Tryd.prog) W 22 5 Tryd.underlying22 Tryd.underlying5 0 c 9 Tryd.underlying9
  · rcases Nat.eq_zero_or_pos m with h0 | h0
    · subst h0
      obtain rfl : bs = [] := List.eq_nil_of_length_eq_zero hl
      rw [run_convert_bytes_string W 22 9 5 _ 0 c Tryd.underlying22 Tryd.underlying5 Tryd.underlying9]
      have := run_bytesToString (P := Tryd.prog) W ad 0 c [] (by simpa using run_loadCells_list (P := Tryd.prog) W ad [] (by simp))
      rw [this]
      rfl
    · obtain ⟨b, o, e, _, hc⟩ := h.at_ h0
      obtain rfl : ad = ⟨b, o, none⟩ := Option.some.inj e
      have := run_convert_bytes_arg (P := Tryd.prog) W 22 5 Tryd.underlying22 Tryd.underlying5 b o m c (bs.map fun (n : Nat) => (n : Int)) (by rw [List.length_map, hl]) (fun i hi => by
        rw [hc i (by omega)]
        have hb : i < bs.length := by omega
        simp [List.getD, hb]) 9 Tryd.underlying9
      rw [this, strOf_nums]
theorem strOf_inj {a b : List Nat} (ha : ∀ x ∈ a, x < 256) (hb : ∀ x ∈ b, x < 256) (h : strOf a = strOf b) : a = b := by
  have h1 : a.map UInt8.ofNat = b.map UInt8.ofNat := by
    have := congrArg (fun s : ByteArray => s.data.toList) h
    simpa [strOf] using this
  have h2 : ∀ l : List Nat, (∀ x ∈ l, x < 256) → (l.map UInt8.ofNat).map UInt8.toNat = l := by
    intro l hl
    induction l with
    | nil => rfl
    | cons x l ih =>
      rw [List.map_cons, List.map_cons, ih (fun y hy => hl y (List.mem_cons_of_mem _ hy))]
      have := hl x List.mem_cons_self
      rw [UInt8.toNat_ofNat_of_lt' (by simpa using this)]
  rw [← h2 a ha, h1, h2 b hb]
theorem strOf_eq {a b : List Nat} (ha : ∀ x ∈ a, x < 256) (hb : ∀ x ∈ b, x < 256) : ((strOf a).toList == (strOf b).toList) = decide (a = b) := by
  rw [Bool.eq_iff_iff, decide_eq_true_eq, Go.Lib.bytes_beq_iff]
  exact ⟨strOf_inj ha hb, fun h => by rw [h]⟩
end Go.Proofs.YtpajimkebnfneaaDoor.Ty9
