/- One byte of a laid block is another one: the chain is not read (no program in sight). -/
import Derived.Test.YtcgapkepbnbabaaDoorRac
namespace Go.Proofs.YtcgapkepbnbabaaDoor.X5
set_option linter.unusedVariables false
set_option linter.unusedSimpArgs false
open Go.RowKit Wd Ty9

theorem bxor8h (a b : Nat) (ha : a < 256) (hb : b < 256) : bits .xor .u8 (a : Int) (b : Int) = ((a ^^^ b : Nat) : Int) := by
  have h : a ^^^ b < 2 ^ 8 := Nat.xor_lt_two_pow (by omega) (by omega)
  show IntKind.u8.wrap (((BitVec.ofInt 8 (a : Int) ^^^ BitVec.ofInt 8 (b : Int)).toNat : Nat) : Int) = _
  rw [BitVec.ofInt_natCast, BitVec.ofInt_natCast, BitVec.toNat_xor, BitVec.toNat_ofNat, BitVec.toNat_ofNat, Nat.mod_eq_of_lt (by omega), Nat.mod_eq_of_lt (by omega)]
  generalize a ^^^ b = c at h ⊢
  simp [IntKind.wrap, IntKind.bits, IntKind.signed]
  omega
theorem xor_neh {a b : Nat} (hb : b ≠ 0) : a ^^^ b ≠ a := by
  intro h
  have h2 : a ^^^ (a ^^^ b) = a ^^^ a := by rw [h]
  rw [← Nat.xor_assoc, Nat.xor_self, Nat.zero_xor] at h2
  exact hb h2
theorem turned_badh {x : List Nat} (hlt : ∀ y ∈ x, y < 256) {k y : Nat} (hk : k < (sealL x).length) (hy : y < 256) (hne : y ≠ (sealL x)[k]) : IsUn ((sealL x).set k y) 5 [] := by
  have hsl := seal_len x
  have hl : ((sealL x).set k y).length = x.length + 4 := by rw [List.length_set, hsl]
  refine .inr (.inl ⟨by omega, ?_, rfl, rfl⟩)
  rw [hl, Nat.add_sub_cancel]
  intro h
  rcases Nat.lt_or_ge k x.length with hkx | hkx
  · have e1 : (sealL x).set k y = x.set k y ++ digs 4 false (crcN x) := by unfold sealL; rw [List.set_append_left _ _ hkx]
    have e2 : ((sealL x).set k y).take x.length = x.set k y := by rw [e1]; exact List.take_left' (by rw [List.length_set])
    rw [e2, e1] at h
    unfold sealL at h
    have h2 := List.append_cancel_left h
    have h3 := congrArg lval h2
    have c1 := crcN_lt x
    have c2 := crcN_lt (x.set k y)
    rw [lval_digs, lval_digs, Nat.mod_eq_of_lt (by omega), Nat.mod_eq_of_lt (by omega)] at h3
    have h4 := crcN_set x k y hkx (hlt _ (List.getElem_mem hkx)) hy h3.symm
    apply hne
    rw [← h4]
    exact (List.getElem_append_left hkx).symm
  · have e1 : (sealL x).set k y = x ++ (digs 4 false (crcN x)).set (k - x.length) y := by unfold sealL; rw [List.set_append_right _ _ hkx]
    have e2 : ((sealL x).set k y).take x.length = x := by rw [e1]; exact List.take_left' rfl
    rw [e2] at h
    apply hne
    have h3 : ((sealL x).set k y)[k]'(by rw [List.length_set]; exact hk) = (sealL x)[k] := by simp only [h]
    rw [List.getElem_set_self] at h3
    exact h3
theorem tmod_kh (p : Int) (L : Nat) (hL : 0 < L) : ∃ k : Nat, k < L ∧ (p.tmod L + L).tmod L = (k : Int) ∧ -(L : Int) < p.tmod L ∧ p.tmod L < L := by
  have h1 := Int.tmod_lt_of_pos p (show (0 : Int) < L by omega)
  have h2 : -(L : Int) < p.tmod L := by
    have h3 := Int.tmod_lt_of_pos (-p) (show (0 : Int) < L by omega)
    rw [Int.neg_tmod] at h3
    omega
  have h4 := Int.tmod_lt_of_pos (p.tmod L + L) (show (0 : Int) < L by omega)
  have h5 : 0 ≤ (p.tmod L + L).tmod L := Int.tmod_nonneg _ (by omega)
  exact ⟨((p.tmod L + L).tmod L).toNat, by omega, by omega, h2, h1⟩

theorem lay_ne {s : List Nat} {room : List Xt} {i : Nat} (h : i < (layL s room).length) : restAt s room i ≠ [] := fun e => by have := layL_end room s i e; omega
/-- The blocks, one byte of one of them turned. -/
def turnM (out : List Mg) (k at_ v : Nat) (y : Mg) : List Mg := out.set k (y.1, y.2.set at_ v)
theorem chain_turned {bs s : List Nat} {room : List Xt} {k p v : Nat} {y : Mg} (hw : ∀ x ∈ room, wideP x) (hm : noMeet room) (hs : s.length ≤ sumCap room) (hlt : ∀ x ∈ s, x < 256) (hy : (layL s room)[k]? = some y) (hp : p < y.2.length) (hv : v < 256) (hne : ∀ u, y.2[p]? = some u → v ≠ u)
    (hF : Holds bs (turnM (layL s room) k p v y)) :
    ∀ (d i : Nat) (x : Xt), i + d = k → room[i]? = some x → Chain bs (room.take i) (s.take (sumCap (room.take i))) x (5, [], [])
  | 0, i, x, hd, hx => by
    obtain rfl : i = k := by omega
    have hil := (List.getElem?_eq_some_iff.mp hy).1
    have hwx := hw x (List.mem_of_getElem? hx)
    have hget := layL_get room s i x hx (lay_ne hil)
    rw [hy] at hget
    have hye := Option.some.inj hget
    obtain ⟨f1, f2, f3⟩ := hF i (y.1, y.2.set p v) (by unfold turnM; exact List.getElem?_set_self hil)
    simp only [List.length_set] at f1 f2 f3
    have hpos : 0 < (restAt s room i).length := List.length_pos_iff.mpr (lay_ne hil)
    obtain ⟨xa, xs⟩ := x
    have hwd := hwx
    unfold wideP at hwd
    simp only at hwd
    obtain ⟨a, rfl⟩ : ∃ a : Nat, xa = (a : Int) := ⟨xa.toNat, by omega⟩
    obtain ⟨z, rfl⟩ : ∃ z : Nat, xs = (z : Int) := ⟨xs.toNat, by omega⟩
    have hcap : capN ((a : Int), (z : Int)) = z - 16 := by unfold capN; simp only; omega
    have hpl : ((restAt s room i).take (capN ((a : Int), (z : Int)))).length + 16 ≤ z := by rw [List.length_take, hcap]; omega
    have y1 : y.1 = (a : Int) := by rw [hye]
    obtain ⟨c, hc, hcl⟩ : ∃ c, y.2 = sealL c ∧ ∀ u ∈ c, u < 256 := by
      rw [hye]
      refine ⟨_, rfl, ?_⟩
      refine lt_app (lt_app (lt_app (lt_app (digs_lt _ _ _) (digs_lt _ _ _)) (digs_lt _ _ _)) (fun u hu => hlt u (List.mem_of_mem_drop (List.mem_of_mem_take hu)))) ?_
      intro u hu
      have := (List.mem_replicate.mp hu).2
      omega
    have y2 : y.2.length = z := by rw [hye]; simp only [Int.toNat_natCast]; exact block_len hpl
    rw [y1, Int.toNat_natCast, y2] at f2 f3
    have hun : IsUn (partB bs a z) 5 [] := by
      rw [f3, hc]
      rw [hc] at hp hne
      exact turned_badh hcl hp hv (hne _ (List.getElem?_eq_getElem hp))
    rcases blk_un f2 (by omega) hun with ⟨_, h⟩ | ⟨h, _⟩
    · exact .bad (by omega) h
    · exact absurd h (by decide)
  | d + 1, i, x, hd, hx => by
    have hkl := (List.getElem?_eq_some_iff.mp hy).1
    have hwx := hw x (List.mem_of_getElem? hx)
    have hne1 : restAt s room i ≠ [] := lay_ne (by omega)
    have hne2 : restAt s room (i + 1) ≠ [] := lay_ne (by omega)
    have hget := layL_get room s i x hx hne1
    obtain ⟨f1, f2, f3⟩ := hF i _ (by unfold turnM; rw [List.getElem?_set_ne (by omega)]; exact hget)
    simp only at f1 f2 f3
    have hpos : 0 < (restAt s room i).length := List.length_pos_iff.mpr hne1
    obtain ⟨xa, xs⟩ := x
    have hwd := hwx
    unfold wideP at hwd
    simp only at hwd f1 f2 f3
    obtain ⟨a, rfl⟩ : ∃ a : Nat, xa = (a : Int) := ⟨xa.toNat, by omega⟩
    obtain ⟨z, rfl⟩ : ∃ z : Nat, xs = (z : Int) := ⟨xs.toNat, by omega⟩
    simp only [Int.toNat_natCast] at f2 f3
    have hcap : capN ((a : Int), (z : Int)) = z - 16 := by unfold capN; simp only; omega
    have hpl : ((restAt s room i).take (capN ((a : Int), (z : Int)))).length + 16 ≤ z := by rw [List.length_take, hcap]; omega
    have hp1 : 1 ≤ ((restAt s room i).take (capN ((a : Int), (z : Int)))).length := by rw [List.length_take, hcap]; omega
    rw [block_len hpl] at f2 f3
    have hle : (a : Int) + (z : Int) ≤ (bs.length : Int) := by omega
    have htk : room.take (i + 1) = room.take i ++ [((a : Int), (z : Int))] := take_snoc hx
    have hrs := restAt_succ (s := s) hx
    have hsucc := sum_succ hx
    have hst : s.take (sumCap (room.take i)) ++ (restAt s room i).take (capN ((a : Int), (z : Int))) = s.take (sumCap (room.take (i + 1))) := by
      rw [hsucc, List.take_add]; rfl
    have hl : ¬ (restAt s room i).length ≤ capN ((a : Int), (z : Int)) := fun h => hne2 (by rw [hrs]; exact List.drop_eq_nil_of_le h)
    rw [if_neg hl] at f3
    have hir : i + 1 < room.length := lay_room hs hne2
    have hy1 : room[i + 1]? = some room[i + 1] := List.getElem?_eq_getElem hir
    have hwy := hw _ (List.getElem_mem hir)
    have hgd : room.getD (i + 1) (0, 0) = room[i + 1] := by rw [List.getD_eq_getElem?_getD, hy1]; rfl
    rw [hgd] at f3
    have hwy2 := hwy
    unfold wideP at hwy2
    have hb := block_of f3 hp1 hpl (by omega) (by omega)
    have ih := chain_turned hw hm hs hlt hy hp hv hne hF d (i + 1) room[i + 1] (by omega) hy1
    rw [← hst, htk] at ih
    refine Chain.more hle hb (fun e => ?_) ⟨by rw [List.length_take]; omega, hwy, ?_⟩ ih
    · have := congrArg Prod.snd e
      simp only at this
      omega
    · rw [← htk]
      have h3 : room.take (i + 1) ++ [room[i + 1]] = room.take (i + 1 + 1) := (take_snoc hy1).symm
      rw [h3]
      exact hm.sublist (List.take_sublist _ _)
theorem load_turned {bs s : List Nat} {room : List Xt} {k p v : Nat} {y : Mg} {x : Xt} (hw : ∀ x ∈ room, wideP x) (hm : noMeet room) (hs : s.length ≤ sumCap room) (hlt : ∀ x ∈ s, x < 256) (hy : (layL s room)[k]? = some y) (hp : p < y.2.length) (hv : v < 256) (hne : ∀ u, y.2[p]? = some u → v ≠ u)
    (hF : Holds bs (turnM (layL s room) k p v y)) (hx : room[0]? = some x) : IsLoad8 bs x 5 [] [] := by
  have hc := chain_turned hw hm hs hlt hy hp hv hne hF k 0 x (by omega) hx
  exact .inr ⟨hw x (List.mem_of_getElem? hx), _, hc, .inl ⟨by decide, rfl, rfl, rfl⟩⟩
end Go.Proofs.YtcgapkepbnbabaaDoor.X5
