/- What was laid is read back (no program in sight). -/
import Derived.Test.YtcgapkepbnbabaaDoorQe
import Derived.Test.YtcgapkepbnbabaaDoorQi
import Derived.Test.YtcgapkepbnbabaaDoorLm
namespace Go.Proofs.YtcgapkepbnbabaaDoor.X5
set_option linter.unusedVariables false
set_option linter.unusedSimpArgs false
open Go.RowKit Wd Ty9

theorem lows_digs (u : Nat) : lows true (digs 4 true u) = digs 4 false u := by
  unfold lows digs pos
  rfl
theorem getN_at {s pre post : List Nat} {u p : Nat} (h : s = pre ++ (digs 4 true u ++ post)) (hp : pre.length = p) (hu : u < 4294967296) : getN s p = u := by
  subst h hp
  unfold getN
  rw [List.drop_left' rfl, List.take_left' (by rw [digs_len]), lows_digs, lval_digs]
  exact Nat.mod_eq_of_lt (by simpa using hu)
theorem parse_msgs : ∀ (l : List Mg) (pre : List Nat), (∀ m ∈ l, okM m ∧ smallM m) → parseF (pre ++ l.flatMap oneB) l.length pre.length = some (l, (pre ++ l.flatMap oneB).length)
  | [], pre, _ => by simp [parseF]
  | m :: r, pre, h => by
    obtain ⟨h1, h2⟩ := h m (by simp)
    unfold okM at h1
    unfold smallM at h2
    have e : pre ++ (m :: r).flatMap oneB = (pre ++ oneB m) ++ r.flatMap oneB := by simp
    have e1 : pre ++ (m :: r).flatMap oneB = pre ++ (digs 4 true m.1.toNat ++ (digs 4 true m.2.length ++ m.2 ++ r.flatMap oneB)) := by simp [oneB]
    have e2 : pre ++ (m :: r).flatMap oneB = (pre ++ digs 4 true m.1.toNat) ++ (digs 4 true m.2.length ++ (m.2 ++ r.flatMap oneB)) := by simp [oneB]
    have e3 : pre ++ (m :: r).flatMap oneB = (pre ++ digs 4 true m.1.toNat ++ digs 4 true m.2.length) ++ (m.2 ++ r.flatMap oneB) := by simp [oneB]
    have n1 := getN_at e1 rfl (by omega)
    have n2 := getN_at (p := pre.length + 4) e2 (by simp [digs_len]) (by omega)
    have hl : (pre ++ (m :: r).flatMap oneB).length = pre.length + 8 + m.2.length + (r.flatMap oneB).length := by
      rw [e3]; simp [digs_len]; omega
    have hd : ((pre ++ (m :: r).flatMap oneB).drop (pre.length + 8)).take m.2.length = m.2 := by
      rw [e3, List.drop_left' (by simp [digs_len]), List.take_left' rfl]
    have hg : getMsg (pre ++ (m :: r).flatMap oneB) pre.length = some (m, (pre ++ oneB m).length) := by
      rw [getMsg_yes (by omega) (by rw [n2]; exact h2) (by rw [n2]; omega), n1, n2, hd]
      have hz : ((m.1.toNat : Nat) : Int) = m.1 := by omega
      rw [hz]
      have : (pre ++ oneB m).length = pre.length + 8 + m.2.length := by simp [oneB, digs_len]; omega
      rw [this]
    rw [List.length_cons, parseF_yes hg, e, parse_msgs r (pre ++ oneB m) (fun x hx => h x (by simp [hx]))]
    simp
theorem parse_stream {l : List Mg} (h : IsMay l 0) : parseS (streamM l) = some l := by
  obtain ⟨hlen, hsm, hok⟩ : l.length ≤ 65536 ∧ (∀ m ∈ l, smallM m) ∧ ∀ m ∈ l, okM m := by
    rcases h with ⟨_, h⟩ | ⟨⟨h1, h2⟩, ⟨_, h⟩ | ⟨h, _⟩⟩
    · cases h
    · cases h
    · exact ⟨h1, h2, h⟩
  have h0 : getN (streamM l) 0 = l.length := getN_at (s := streamM l) (pre := []) (by simp [streamM]; rfl) rfl (by omega)
  have hp := parse_msgs l (digs 4 true l.length) (fun m hm => ⟨hok m hm, hsm m hm⟩)
  rw [digs_len] at hp
  refine parseS_yes ?_ (by rw [h0]; exact hlen) (by rw [h0]; exact hp) rfl h
  simp [streamM, digs_len]
/-- A block that was laid is taken apart. -/
theorem block_of {bs : List Nat} {a s : Nat} {part : List Nat} {next : Xt} (h : partB bs a s = blockL part next s) (h1 : 1 ≤ part.length) (h2 : part.length + 16 ≤ s) (hs : s ≤ 4194304) (hn : 0 ≤ next.1 ∧ next.1 ≤ 4194304 ∧ 0 ≤ next.2 ∧ next.2 ≤ 4194304) :
    blockOf bs ((a : Int), (s : Int)) = some (part, next) := by
  obtain ⟨c, hc⟩ : ∃ c, c = digs 4 true part.length ++ digs 4 true next.1.toNat ++ digs 4 true next.2.toNat ++ part ++ List.replicate (s - 16 - part.length) 0 := ⟨_, rfl⟩
  have hcl : c.length + 4 = s := by
    rw [hc]; simp only [List.length_append, digs_len, List.length_replicate]; omega
  have hb : partB bs a s = sealL c := by rw [h, hc]; rfl
  have hsl : (sealL c).length = s := by rw [seal_len]; omega
  have htk : (sealL c).take (s - 4) = c := by
    unfold sealL
    exact List.take_left' (by omega)
  have n0 : getN c 0 = part.length := getN_at (pre := []) (by rw [hc]; simp; rfl) rfl (by omega)
  have n4 : getN c 4 = next.1.toNat := getN_at (pre := digs 4 true part.length) (by rw [hc]; simp; rfl) (by rw [digs_len]) (by omega)
  have n8 : getN c 8 = next.2.toNat := getN_at (pre := digs 4 true part.length ++ digs 4 true next.1.toNat) (by rw [hc]; simp; rfl) (by simp [digs_len]) (by omega)
  have hd : c.drop 12 = part ++ List.replicate (s - 16 - part.length) 0 := by
    rw [hc, List.append_assoc]
    exact List.drop_left' (by simp [digs_len])
  have hcap : capN ((a : Int), (s : Int)) = s - 16 := by unfold capN; simp only; omega
  have e : (bs.drop a).take s = sealL c := hb
  have hz : ∀ y ∈ c.drop (12 + getN c 0), y = 0 := by
    intro y hy
    rw [n0, ← List.drop_drop, hd, List.drop_left' rfl] at hy
    exact (List.mem_replicate.mp hy).2
  have q1 : ((next.1.toNat : Nat) : Int) = next.1 := by omega
  have q2 : ((next.2.toNat : Nat) : Int) = next.2 := by omega
  unfold blockOf
  simp only [Int.toNat_natCast, e, hsl, htk, hcap]
  rw [if_pos ⟨trivial, by rw [n0]; exact h1, by rw [n0]; omega, hz⟩, n0, n4, n8, hd, List.take_left' rfl, q1, q2]
/-- A file holds the blocks of a stream. -/
def Holds (bs : List Nat) (out : List Mg) : Prop := ∀ (i : Nat) (y : Mg), out[i]? = some y → 0 ≤ y.1 ∧ y.1.toNat + y.2.length ≤ bs.length ∧ partB bs y.1.toNat y.2.length = y.2
theorem chain_laid {bs s : List Nat} {room : List Xt} (hw : ∀ x ∈ room, wideP x) (hm : noMeet room) (hs : s.length ≤ sumCap room) (hF : Holds bs (layL s room)) :
    ∀ (d i : Nat) (x : Xt), (restAt s room i).length ≤ d → room[i]? = some x → restAt s room i ≠ [] → Chain bs (room.take i) (s.take (sumCap (room.take i))) x (0, s, room.take (layL s room).length)
  | 0, i, x, hd, _, hne => absurd (List.eq_nil_of_length_eq_zero (Nat.le_zero.mp hd)) hne
  | d + 1, i, x, hd, hx, hne => by
    have hwx := hw x (List.mem_of_getElem? hx)
    have hget := layL_get room s i x hx hne
    obtain ⟨f1, f2, f3⟩ := hF i _ hget
    simp only at f1 f2 f3
    have hpos : 0 < (restAt s room i).length := List.length_pos_iff.mpr hne
    obtain ⟨xa, xs⟩ := x
    have hwd := hwx
    unfold wideP at hwd
    simp only at hwd f1 f2 f3
    obtain ⟨a, rfl⟩ : ∃ a : Nat, xa = (a : Int) := ⟨xa.toNat, by omega⟩
    obtain ⟨z, rfl⟩ : ∃ z : Nat, xs = (z : Int) := ⟨xs.toNat, by omega⟩
    simp only [Int.toNat_natCast] at f2 f3 hget
    have hcap : capN ((a : Int), (z : Int)) = z - 16 := by unfold capN; simp only; omega
    have hpl : ((restAt s room i).take (capN ((a : Int), (z : Int)))).length + 16 ≤ z := by rw [List.length_take, hcap]; omega
    have hp1 : 1 ≤ ((restAt s room i).take (capN ((a : Int), (z : Int)))).length := by rw [List.length_take, hcap]; omega
    rw [block_len hpl] at f2 f3
    have hle : (a : Int) + (z : Int) ≤ (bs.length : Int) := by omega
    have htk : room.take (i + 1) = room.take i ++ [((a : Int), (z : Int))] := take_snoc hx
    have hrs := restAt_succ (s := s) hx
    have hsucc := sum_succ hx
    have hst : s.take (sumCap (room.take i)) ++ (restAt s room i).take (capN ((a : Int), (z : Int))) = s.take (sumCap (room.take (i + 1))) := by
      rw [hsucc, List.take_add]; rfl
    have hil : i < (layL s room).length := (List.getElem?_eq_some_iff.mp hget).1
    by_cases hl : (restAt s room i).length ≤ capN ((a : Int), (z : Int))
    · rw [if_pos hl] at f3
      have hb := block_of f3 hp1 hpl (by omega) (by simp)
      have hend : restAt s room (i + 1) = [] := by rw [hrs]; exact List.drop_eq_nil_of_le hl
      have hk : (layL s room).length = i + 1 := by have := layL_end room s (i + 1) hend; omega
      have hsl : s.take (sumCap (room.take (i + 1))) = s := by
        apply List.take_of_length_le
        unfold restAt at hend
        have := List.drop_eq_nil_iff.mp hend
        exact this
      have := Chain.last (u := room.take i) (a := s.take (sumCap (room.take i))) hle hb
      rwa [hst, hsl, ← htk, ← hk] at this
    · rw [if_neg hl] at f3
      have hne2 : restAt s room (i + 1) ≠ [] := by
        rw [hrs]; intro e; have := List.drop_eq_nil_iff.mp e; omega
      have hir : i + 1 < room.length := lay_room hs hne2
      have hy : room[i + 1]? = some room[i + 1] := List.getElem?_eq_getElem hir
      have hwy := hw _ (List.getElem_mem hir)
      have hgd : room.getD (i + 1) (0, 0) = room[i + 1] := by rw [List.getD_eq_getElem?_getD, hy]; rfl
      rw [hgd] at f3
      have hwy2 := hwy
      unfold wideP at hwy2
      have hb := block_of f3 hp1 hpl (by omega) (by omega)
      have ih := chain_laid hw hm hs hF d (i + 1) room[i + 1] (by rw [hrs, List.length_drop, hcap]; omega) hy hne2
      rw [← hst, htk] at ih
      refine Chain.more hle hb (fun e => ?_) ⟨by rw [List.length_take]; omega, hwy, ?_⟩ ih
      · have := congrArg Prod.snd e
        simp only at this
        omega
      · rw [← htk]
        have h3 : room.take (i + 1) ++ [room[i + 1]] = room.take (i + 1 + 1) := (take_snoc hy).symm
        rw [h3]
        exact hm.sublist (List.take_sublist _ _)
/-- A file with the laid blocks is read as the messages. -/
theorem load_laid {bs : List Nat} {l : List Mg} {room : List Xt} {x : Xt} (hmay : IsMay l 0) (hw : ∀ x ∈ room, wideP x) (hm : noMeet room) (hs : sizeM l ≤ sumCap room) (hx : room[0]? = some x) (hF : Holds bs (layL (streamM l) room)) :
    IsLoad8 bs x 0 l (room.take (layL (streamM l) room).length) := by
  have hs2 : (streamM l).length ≤ sumCap room := by rw [stream_len]; exact hs
  have hne : restAt (streamM l) room 0 ≠ [] := by
    rw [restAt_zero]; intro e; have := congrArg List.length e; simp [streamM, digs_len] at this
  have hc := chain_laid hw hm hs2 hF _ 0 x (Nat.le_refl _) hx hne
  refine .inr ⟨hw x (List.mem_of_getElem? hx), _, hc, .inr ⟨rfl, .inr ⟨?_, rfl, rfl⟩⟩⟩
  exact parse_stream hmay
end Go.Proofs.YtcgapkepbnbabaaDoor.X5
