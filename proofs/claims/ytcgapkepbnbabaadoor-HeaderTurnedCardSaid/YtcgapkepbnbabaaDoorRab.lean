/- A file that holds blocks: in plain Lean, and the law's small and file. -/
import Derived.Test.YtcgapkepbnbabaaDoorRaa
import Derived.Test.YtcgapkepbnbabaaDoorLu
import Derived.Laws.CopyOwn
namespace Go.Proofs.YtcgapkepbnbabaaDoor.X5
set_option linter.unusedVariables false
set_option linter.unusedSimpArgs false
open Go.RowKit Wd Ty9

def putL (bs : List Nat) (a : Nat) (ys : List Nat) : List Nat := bs.take a ++ (ys ++ bs.drop (a + ys.length))
theorem put_len {bs : List Nat} {a : Nat} {ys : List Nat} (h : a + ys.length ≤ bs.length) : (putL bs a ys).length = bs.length := by
  unfold putL; simp; omega
theorem put_get {bs : List Nat} {a : Nat} {ys : List Nat} (h : a + ys.length ≤ bs.length) (j : Nat) : (putL bs a ys)[j]? = if j < a then bs[j]? else if j < a + ys.length then ys[j - a]? else bs[j]? := by
  unfold putL
  have hl : (bs.take a).length = a := by rw [List.length_take]; omega
  by_cases h1 : j < a
  · rw [if_pos h1, List.getElem?_append_left (by omega), List.getElem?_take_of_lt h1]
  · rw [if_neg h1, List.getElem?_append_right (by omega), hl]
    by_cases h2 : j < a + ys.length
    · rw [if_pos h2, List.getElem?_append_left (by omega)]
    · rw [if_neg h2, List.getElem?_append_right (by omega), List.getElem?_drop]
      congr 1
      omega
theorem part_get (bs : List Nat) (a s j : Nat) : (partB bs a s)[j]? = if j < s then bs[a + j]? else none := by
  unfold partB
  by_cases h : j < s
  · rw [if_pos h, List.getElem?_take_of_lt h, List.getElem?_drop]
  · rw [if_neg h, List.getElem?_eq_none]
    rw [List.length_take]; omega
theorem part_put {bs : List Nat} {a : Nat} {ys : List Nat} (h : a + ys.length ≤ bs.length) : partB (putL bs a ys) a ys.length = ys := by
  apply List.ext_getElem?
  intro j
  rw [part_get, put_get h]
  by_cases hj : j < ys.length
  · rw [if_pos hj, if_neg (by omega), if_pos (by omega)]
    congr 1; omega
  · rw [if_neg hj, List.getElem?_eq_none (by omega)]
theorem part_keep {bs : List Nat} {a : Nat} {ys : List Nat} {b s : Nat} (h : a + ys.length ≤ bs.length) (hd : a + ys.length ≤ b ∨ b + s ≤ a) : partB (putL bs a ys) b s = partB bs b s := by
  apply List.ext_getElem?
  intro j
  rw [part_get, part_get, put_get h]
  by_cases hj : j < s
  · rw [if_pos hj, if_pos hj]
    by_cases h1 : b + j < a
    · rw [if_pos h1]
    · rw [if_neg h1, if_neg (by omega)]
  · rw [if_neg hj, if_neg hj]
def putM (bs : List Nat) (y : Mg) : List Nat := putL bs y.1.toNat y.2
def endM : List Mg → Nat := fun out => out.foldl (fun n y => max n (y.1.toNat + y.2.length)) 0
def fileL (out : List Mg) : List Nat := out.foldl putM (List.replicate (endM out) 238)
theorem end_snoc (out : List Mg) (y : Mg) : endM (out ++ [y]) = max (endM out) (y.1.toNat + y.2.length) := by simp [endM]
theorem fold_le : ∀ (out : List Mg) (n : Nat), n ≤ out.foldl (fun n y => max n (y.1.toNat + y.2.length)) n ∧ ∀ y ∈ out, y.1.toNat + y.2.length ≤ out.foldl (fun n y => max n (y.1.toNat + y.2.length)) n
  | [], n => ⟨Nat.le_refl _, fun y h => absurd h List.not_mem_nil⟩
  | z :: r, n => by
    obtain ⟨h1, h2⟩ := fold_le r (max n (z.1.toNat + z.2.length))
    refine ⟨by simp only [List.foldl_cons]; omega, fun y hy => ?_⟩
    simp only [List.foldl_cons]
    rcases List.mem_cons.mp hy with rfl | hy
    · omega
    · exact h2 y hy
theorem end_le {out : List Mg} {y : Mg} (h : y ∈ out) : y.1.toNat + y.2.length ≤ endM out := (fold_le out 0).2 y h
theorem end_bound {out : List Mg} {N : Nat} (h : ∀ y ∈ out, y.1.toNat + y.2.length ≤ N) : endM out ≤ N := by
  have key : ∀ (out : List Mg) (n : Nat), n ≤ N → (∀ y ∈ out, y.1.toNat + y.2.length ≤ N) → out.foldl (fun n y => max n (y.1.toNat + y.2.length)) n ≤ N := by
    intro out
    induction out with
    | nil => intro n hn _; exact hn
    | cons z r ih => intro n hn h; exact ih _ (Nat.max_le.mpr ⟨hn, h z (by simp)⟩) (fun y hy => h y (by simp [hy]))
  exact key out 0 (Nat.zero_le _) h
theorem fold_lt : ∀ (out : List Mg) (bs : List Nat), (∀ x ∈ bs, x < 256) → (∀ y ∈ out, ∀ x ∈ y.2, x < 256) → ∀ x ∈ out.foldl putM bs, x < 256
  | [], _, h, _ => h
  | z :: r, bs, h, hz => by
    refine fold_lt r (putM bs z) (fun x hx => ?_) (fun y hy => hz y (by simp [hy]))
    unfold putM putL at hx
    rcases List.mem_append.mp hx with hx | hx
    · exact h x (List.mem_of_mem_take hx)
    · rcases List.mem_append.mp hx with hx | hx
      · exact hz z (by simp) x hx
      · exact h x (List.mem_of_mem_drop hx)
theorem file_lt {out : List Mg} (h : ∀ y ∈ out, ∀ x ∈ y.2, x < 256) : ∀ x ∈ fileL out, x < 256 :=
  fold_lt out _ (fun x hx => by have := (List.mem_replicate.mp hx).2; omega) h
def Disj (out : List Mg) : Prop := out.Pairwise fun y z => y.1.toNat + y.2.length ≤ z.1.toNat ∨ z.1.toNat + z.2.length ≤ y.1.toNat
theorem fold_keep : ∀ (out : List Mg) (bs : List Nat) (b s : Nat), (∀ y ∈ out, y.1.toNat + y.2.length ≤ bs.length) → (∀ y ∈ out, y.1.toNat + y.2.length ≤ b ∨ b + s ≤ y.1.toNat) → partB (out.foldl putM bs) b s = partB bs b s
  | [], _, _, _, _, _ => rfl
  | z :: r, bs, b, s, h, hd => by
    have hz := h z (by simp)
    have hl : (putM bs z).length = bs.length := put_len hz
    rw [List.foldl_cons, fold_keep r (putM bs z) b s (fun y hy => by rw [hl]; exact h y (by simp [hy])) (fun y hy => hd y (by simp [hy]))]
    exact part_keep hz (hd z (by simp))
theorem fold_len : ∀ (out : List Mg) (bs : List Nat), (∀ y ∈ out, y.1.toNat + y.2.length ≤ bs.length) → (out.foldl putM bs).length = bs.length
  | [], _, _ => rfl
  | z :: r, bs, h => by
    have hl : (putM bs z).length = bs.length := put_len (h z (by simp))
    rw [List.foldl_cons, fold_len r (putM bs z) (fun y hy => by rw [hl]; exact h y (by simp [hy])), hl]
theorem fold_holds : ∀ (out : List Mg) (bs : List Nat), (∀ y ∈ out, y.1.toNat + y.2.length ≤ bs.length) → Disj out → ∀ y ∈ out, partB (out.foldl putM bs) y.1.toNat y.2.length = y.2
  | [], _, _, _, y, hy => absurd hy List.not_mem_nil
  | z :: r, bs, h, hd, y, hy => by
    obtain ⟨h1, h2⟩ := List.pairwise_cons.mp hd
    have hz := h z (by simp)
    have hl : (putM bs z).length = bs.length := put_len hz
    have hr : ∀ y ∈ r, y.1.toNat + y.2.length ≤ (putM bs z).length := fun y hy => by rw [hl]; exact h y (by simp [hy])
    rw [List.foldl_cons]
    rcases List.mem_cons.mp hy with rfl | hy
    · rw [fold_keep r _ _ _ hr (fun x hx => (h1 x hx).symm)]
      exact part_put hz
    · exact fold_holds r _ hr h2 y hy
theorem file_holds {out : List Mg} (h0 : ∀ y ∈ out, 0 ≤ y.1) (hd : Disj out) : Holds (fileL out) out := by
  intro i y hy
  have hm := List.mem_of_getElem? hy
  have hb : ∀ y ∈ out, y.1.toNat + y.2.length ≤ (List.replicate (endM out) 238).length := fun y hy => by rw [List.length_replicate]; exact end_le hy
  refine ⟨h0 y hm, ?_, fold_holds out _ hb hd y hm⟩
  unfold fileL
  rw [fold_len out _ hb]
  exact hb y hm
theorem by8_put (bs : List Nat) (a : Nat) (ys : List Nat) : splice (by8 bs) a (by8 ys) = by8 (putL bs a ys) := by
  unfold splice putL by8
  simp
theorem by8_one8 (xs : List Nat) : ∀ u ∈ by8 xs, u.oneCell' = true := by
  intro u hu; simp [by8] at hu; obtain ⟨x, _, rfl⟩ := hu; rfl
def smallP (out : List Mg) : Prop := 0 < out.length ∧ ∀ y ∈ out, 0 ≤ y.1 ∧ y.1 ≤ 100000 ∧ 17 ≤ y.2.length
def SmR (l : List Mg) (w : World) (e : Ending) (w' : World) : Prop := ∃ r : Bool, e = .returned (.bool r) ∧ Hid (r = true ↔ smallP l) ∧ Below w.heap.size w w'

set_option maxHeartbeats 4000000 in
set_option maxRecDepth 100000 in
theorem small_any (A : Option Addr) (n C : Nat) (l : List Mg) (w : World) (hn : n ≤ 140737488355328) (h : Ms w w.heap.size A n l) :
    Calls Tryd.prog 23 #[.slice A n C] w fun e w' => SmR l w e w' := by
  have hl := h.len
  have HM := Lib.hid h
  have HL := Lib.hid hl
  clear h hl
  go_enter Tryd.func23, Tryd.ntmps23
  go_wp2
  go_loopw [3] (fun i wr => ∃ (k : Nat), i = .int .i64 k ∧ k ≤ n ∧ Below w.heap.size w wr ∧ Hid (∀ (j : Nat) (y : Mg), j < k → l[j]? = some y → 0 ≤ y.1 ∧ y.1 ≤ 100000 ∧ 17 ≤ y.2.length)) (fun i _ => n - (intOf i).toNat)
  case atStart => exact ⟨0, rfl, Nat.zero_le _, Below.refl _ _, Lib.hid (fun j y h => absurd h (Nat.not_lt_zero _))⟩
  case round =>
    obtain ⟨k, rfl, hk, hbe, HO⟩ := hrel
    have HBE := Lib.hid hbe
    clear hbe
    by_cases hlt : k < n
    · have hltz : (k : Int) < (n : Int) := by omega
      obtain ⟨b, o, x, Ai, ci, rfl, hb1, hx, c0, c1, hci, hmi, hyi⟩ := HM.out.get hlt
      replace c0 := (HBE.out.cell (p := ⟨b, o + k * 2, none⟩) hb1).trans c0
      replace c1 := (HBE.out.cell (p := ⟨b, o + k * 2 + 1, none⟩) hb1).trans c1
      have HX := Lib.hid hx
      clear hx hyi
      obtain ⟨xa, xb⟩ := x
      simp only at c0 c1 hci hmi
      obtain ⟨q, hq⟩ : ∃ q, xb.length = q := ⟨_, rfl⟩
      rw [hq] at c1 hci hmi
      have HQ := Lib.hid hq
      clear hq
      have HBAD := Lib.hid (fun (hno : ¬ (0 ≤ xa ∧ xa ≤ 100000 ∧ 17 ≤ q)) => show (false = true) ↔ smallP l from ⟨fun h => (nomatch h), fun h => absurd (h.2 _ (List.mem_of_getElem? HX.out)) (by simp only; rw [HQ.out]; exact hno)⟩)
      by_cases h1 : xa < 0
      · have HNO := Lib.hid (HBAD.out (by omega))
        have z1 : decide (xa < 0) = true := by simpa using h1
        go_wp2
        go_ret
        exact ⟨false, rfl, HNO, HBE.out⟩
      · have z1 : decide (xa < 0) = false := by simpa using h1
        by_cases h2 : 100000 < xa
        · have HNO := Lib.hid (HBAD.out (by omega))
          have z2 : decide (100000 < xa) = true := by simpa using h2
          go_wp2
          go_ret
          exact ⟨false, rfl, HNO, HBE.out⟩
        · have z2 : decide (100000 < xa) = false := by simpa using h2
          by_cases h3 : q < 17
          · have HNO := Lib.hid (HBAD.out (by omega))
            have z3 : (q : Int) < 17 := by omega
            have z4 : decide ((q : Int) < 17) = true := by simpa using z3
            go_wp2
            go_ret
            exact ⟨false, rfl, HNO, HBE.out⟩
          · have z3 : ¬ (q : Int) < 17 := by omega
            have z4 : decide ((q : Int) < 17) = false := by simpa using z3
            have HO2 := Lib.hid (show ∀ (j : Nat) (y : Mg), j < k + 1 → l[j]? = some y → 0 ≤ y.1 ∧ y.1 ≤ 100000 ∧ 17 ≤ y.2.length from fun j y hj hy => by
              rcases Nat.lt_or_ge j k with h | h
              · exact HO.out j y h hy
              · obtain rfl : j = k := by omega
                rw [HX.out] at hy
                obtain rfl := Option.some.inj hy
                simp only
                rw [HQ.out]
                omega)
            go_wp2
            go_roundw
            case rel => exact ⟨k + 1, by go_num, by omega, HBE.out, HO2⟩
            case measure => simp [intOf]; omega
    · obtain rfl : k = n := by omega
      have HOK := Lib.hid (show ∀ y ∈ l, 0 ≤ y.1 ∧ y.1 ≤ 100000 ∧ 17 ≤ y.2.length from fun y hy => by
        obtain ⟨j, hj, rfl⟩ := List.getElem_of_mem hy
        exact HO.out j _ (by have := HL.out; omega) (List.getElem?_eq_getElem hj))
      by_cases h0 : k = 0
      · have HNO := Lib.hid (show (false = true) ↔ smallP l from ⟨fun h => (nomatch h), fun h => absurd h.1 (by rw [HL.out]; omega)⟩)
        subst h0
        go_wp2
        go_ret
        exact ⟨false, rfl, HNO, HBE.out⟩
      · have HYES := Lib.hid (show smallP l from ⟨by rw [HL.out]; omega, HOK.out⟩)
        have z0 : (0 : Int) < (k : Int) := by omega
        have zd : decide (0 < k) = true := by simp; omega
        go_wp2
        go_ret
        exact ⟨true, rfl, Lib.hid ⟨fun _ => HYES.out, fun _ => rfl⟩, HBE.out⟩

set_option maxHeartbeats 4000000 in
set_option maxRecDepth 100000 in
theorem file_any (A : Option Addr) (n C : Nat) (l : List Mg) (w : World) (hn : n ≤ 140737488355328) (h : Ms w w.heap.size A n l) (hs : ∀ y ∈ l, 0 ≤ y.1 ∧ y.1 ≤ 4194304 ∧ y.2.length ≤ 4194304 ∧ 1 ≤ y.2.length) (hp : 0 < endM l) (hlt : ∀ x ∈ fileL l, x < 256) :
    Calls Tryd.prog 24 #[.slice A n C] w fun e w' => ∃ g, e = .returned (.slice (some ⟨g, 0, none⟩) (fileL l).length (fileL l).length) ∧ Byt w' w'.heap.size (some ⟨g, 0, none⟩) (fileL l).length (fileL l) ∧ Below w.heap.size w w' := by
  have hl := h.len
  have HM := Lib.hid h
  have HL := Lib.hid hl
  have HS := Lib.hid hs
  have hb := end_bound (out := l) (N := 8388608) (fun y hy => by have := hs y hy; omega)
  have HP := Lib.hid (And.intro hp hb)
  have HLT := Lib.hid hlt
  clear h hl hs hp hb hlt
  go_enter Tryd.func24, Tryd.ntmps24
  go_wp2
  go_loopw [3, 4] (fun v i wr => ∃ (k N : Nat), v = .int .i64 N ∧ i = .int .i64 k ∧ k ≤ n ∧ Below w.heap.size w wr ∧ Hid (N = endM (l.take k))) (fun _ i _ => n - (intOf i).toNat)
  case atStart => exact ⟨0, 0, rfl, rfl, Nat.zero_le _, Below.refl _ _, Lib.hid rfl⟩
  case round =>
    obtain ⟨k, N, rfl, rfl, hk, hbe, HN⟩ := hrel
    have HBE := Lib.hid hbe
    clear hbe
    by_cases hlt : k < n
    · have hltz : (k : Int) < (n : Int) := by omega
      obtain ⟨b, o, x, Ai, ci, rfl, hb1, hx, c0, c1, hci, hmi, hyi⟩ := HM.out.get hlt
      replace c0 := (HBE.out.cell (p := ⟨b, o + k * 2, none⟩) hb1).trans c0
      replace c1 := (HBE.out.cell (p := ⟨b, o + k * 2 + 1, none⟩) hb1).trans c1
      have hxs := HS.out x (List.mem_of_getElem? hx)
      have HT := Lib.hid (show endM (l.take (k + 1)) = max N (x.1.toNat + x.2.length) by rw [take_snoc hx, end_snoc, ← HN.out])
      have hNb := end_bound (out := l.take k) (N := 8388608) (fun y hy => by have := HS.out y (List.mem_of_mem_take hy); omega)
      rw [← HN.out] at hNb
      clear hx hyi
      obtain ⟨xa, xb⟩ := x
      simp only at c0 c1 hci hmi hxs HT
      obtain ⟨q, hq⟩ : ∃ q, xb.length = q := ⟨_, rfl⟩
      rw [hq] at c1 hci hmi HT hxs
      clear hq
      obtain ⟨a, rfl⟩ : ∃ a : Nat, xa = (a : Int) := ⟨xa.toNat, by omega⟩
      rw [Int.toNat_natCast] at HT
      obtain ⟨M, hM⟩ : ∃ M, max N (a + q) = M := ⟨_, rfl⟩
      rw [hM] at HT
      have HTH := Lib.hid HT.symm
      have m1 : max (N : Int) ((a : Int) + (q : Int)) = (M : Int) := by omega
      have S1 := Lib.hid (show wrap64 ((a : Int) + (q : Int)) = (a : Int) + (q : Int) by unfold wrap64; omega)
      have S2 := Lib.hid (show IntKind.i64.wrap ((a : Int) + (q : Int)) = (a : Int) + (q : Int) from IntWalk.i64_in _ (by omega))
      have HK1 := Lib.hid (show k + 1 ≤ n by omega)
      have HK2 := Lib.hid (show n - (k + 1) < n - k by omega)
      have s1 := S1.out
      have s2 := S2.out
      clear hM hNb hxs HT
      go_upto_region 5 with fail
      go_quiet (fail)
      go_wp2
      go_roundw
      case rel => exact ⟨k + 1, M, rfl, by go_num, HK1.out, below_drewN HBE.out _, HTH⟩
      case measure => have h1 := HK1.out; clear m1 s1 s2; simp [intOf]; omega
    · obtain rfl : k = n := by omega
      have HNE := Lib.hid (show N = endM l by rw [HN.out, ← HL.out, List.take_length])
      have hN1 := HP.out
      rw [← HNE.out] at hN1
      have HN1 := Lib.hid hN1
      have hmk := mk_bytes N (by omega)
      have HBA := Lib.hid (below_more HBE.out (below_new wr (.cells (by8 (List.replicate N 0)).toArray 5)))
      have HX0 := Lib.hid (Bx.new wr 5 (by8 (List.replicate N 0)).toArray)
      have HGE := Lib.hid (show w.heap.size ≤ wr.heap.size from HBE.out.size)
      clear hlt hN1
      go_wp2
      clear hmk
      obtain ⟨g, hg⟩ : ∃ g, wr.heap.size = g := ⟨_, rfl⟩
      rw [hg] at HX0 HGE
      rw [hg]
      generalize wr.alloc (.cells (by8 (List.replicate N 0)).toArray 5) = wa at *
      clear hg HBE HN
      go_loopw [6] (fun i wr => ∃ (j : Nat) (bs : List Nat), i = .int .i64 j ∧ j ≤ N ∧ Bx wr g 5 (by8 bs).toArray ∧ Below w.heap.size w wr ∧ Hid (bs = List.replicate j 238 ++ List.replicate (N - j) 0)) (fun i _ => N - (intOf i).toNat)
      case atStart => exact ⟨0, List.replicate N 0, rfl, Nat.zero_le _, HX0.out, HBA.out, Lib.hid (by simp)⟩
      case round =>
        obtain ⟨j, bs, rfl, hj, hbx, hbe, HBS⟩ := hrel
        have HBX := Lib.hid hbx
        have HBE := Lib.hid hbe
        have hN2 := HN1.out
        clear hbe
        by_cases hlt : j < N
        · have hltz : (j : Int) < (N : Int) := by omega
          have hbl : bs.length = N := by rw [HBS.out]; simp; omega
          obtain ⟨uv, huv⟩ : ∃ uv, bs[j]? = some uv := ⟨_, List.getElem?_eq_getElem (by omega)⟩
          have c0 : wr.cell? ⟨g, j, none⟩ = some (.int .u8 (uv : Int)) := by rw [hbx.cell j]; simp [by8, huv]
          have f0 := hbx.frozen j
          have HBX2 := Lib.hid (show Bx (wr.setCell ⟨g, j, none⟩ (.int .u8 238)) g 5 (by8 (bs.set j 238)).toArray by
            have h1 := hbx.set_ j (.int .u8 238)
            rw [by8_set]
            simpa using h1)
          have HB2 := Lib.hid (HBE.out.setCell (p := ⟨g, j, none⟩) HGE.out (.int .u8 238))
          have HBS2 := Lib.hid (show bs.set j 238 = List.replicate (j + 1) 238 ++ List.replicate (N - (j + 1)) 0 by
            rw [HBS.out, List.set_append_right _ _ (by simp), List.length_replicate, Nat.sub_self, show N - j = N - (j + 1) + 1 by omega, List.replicate_succ, List.set_cons_zero, List.replicate_succ']
            simp)
          clear hbx hbl huv
          go_wp2
          go_roundw
          case rel => exact ⟨j + 1, _, by go_num, by omega, HBX2.out, HB2.out, HBS2⟩
          case measure => simp [intOf]; omega
        · obtain rfl : j = N := by omega
          have HX1 := Lib.hid (show Bx wr g 5 (by8 (List.replicate j 238)).toArray by
            have h1 := HBX.out
            rw [HBS.out, Nat.sub_self] at h1
            simpa using h1)
          clear hbx hlt HBX HBS HX0
          go_wp2
          generalize wr = wo at *
          go_loopw [7] (fun i wr => ∃ (q : Nat) (bs : List Nat), i = .int .i64 q ∧ q ≤ k ∧ Bx wr g 5 (by8 bs).toArray ∧ Below w.heap.size w wr ∧ Hid (bs = (l.take q).foldl putM (List.replicate j 238))) (fun i _ => k - (intOf i).toNat)
          case atStart => exact ⟨0, _, rfl, Nat.zero_le _, HX1.out, HBE.out, Lib.hid rfl⟩
          case round =>
            obtain ⟨q, bs2, rfl, hq, hbx2, hbe2, HB3⟩ := hrel
            have HBX3 := Lib.hid hbx2
            have HBE3 := Lib.hid hbe2
            clear hbx2 hbe2
            by_cases hlt : q < k
            · have hltz : (q : Int) < (k : Int) := by omega
              obtain ⟨b, o, x, Ai, ci, rfl, hb1, hx, c0, c1, hci, hmi, hyi⟩ := HM.out.get hlt
              replace c0 := (HBE3.out.cell (p := ⟨b, o + q * 2, none⟩) hb1).trans c0
              replace c1 := (HBE3.out.cell (p := ⟨b, o + q * 2 + 1, none⟩) hb1).trans c1
              have hxs := HS.out x (List.mem_of_getElem? hx)
              have hend := end_le (List.mem_of_getElem? hx)
              rw [← HNE.out] at hend
              have hbl : bs2.length = j := by
                rw [HB3.out, fold_len _ _ (fun y hy => by rw [List.length_replicate, HNE.out]; exact end_le (List.mem_of_mem_take hy)), List.length_replicate]
              have HB4 := Lib.hid (show (l.take (q + 1)).foldl putM (List.replicate j 238) = putL bs2 x.1.toNat x.2 by rw [take_snoc hx, List.foldl_append, ← HB3.out]; rfl)
              have HYI := Lib.hid (hyi.later HBE3.out)
              clear hx hyi
              obtain ⟨xa, xb⟩ := x
              simp only at c0 c1 hci hmi hxs hend HB4 HYI
              obtain ⟨a, rfl⟩ : ∃ a : Nat, xa = (a : Int) := ⟨xa.toNat, by omega⟩
              rw [Int.toNat_natCast] at hend HB4
              obtain ⟨L, hL⟩ : ∃ L, xb.length = L := ⟨_, rfl⟩
              rw [hL] at c1 hci hmi hxs hend HYI
              have z1 : (0 : Int) ≤ (a : Int) := by omega
              have z2 : (a : Int) ≤ (j : Int) := by omega
              have z3 : ¬ j = a := by omega
              have HMIN := Lib.hid (show (by8 xb).length = Nat.min L (j - a) by rw [by8_len, hL]; exact (Nat.min_eq_left (by omega)).symm)
              have HFIT := Lib.hid (show a + (by8 xb).length ≤ (by8 bs2).length by rw [by8_len, by8_len, hL, hbl]; omega)
              obtain ⟨bi, oi, rfl, hbi, hcl⟩ := HYI.out.at_ (by omega)
              have HPOS := Lib.hid (show 0 < (by8 xb).length → (some (⟨g, a, none⟩ : Addr)) = some ⟨g, a, none⟩ ∧ ∃ ad, some (⟨bi, oi, none⟩ : Addr) = some ad ∧ ∀ j v, (by8 xb)[j]? = some v → wr.cell? (ad.add j) = some v from fun _ => ⟨rfl, ⟨bi, oi, none⟩, rfl, fun j v hv => by
                have hj := (List.getElem?_eq_some_iff.mp hv).1
                rw [by8_len] at hj
                have hadd : (⟨bi, oi, none⟩ : Addr).add j = ⟨bi, oi + j, none⟩ := by unfold Addr.add; split <;> simp_all
                rw [hadd, hcl j hj, ← hv]
                simp [by8, hj]⟩)
              clear hcl hbl hend hxs hL hbi
              go_upto_region 14 with fail
              go_region_law (refine step_copy_splice rfl (.tmp 50) (.tmp 55) 31 31 rfl 5 Tryd.underlying31 byte_size (some ⟨g, a, none⟩) (some ⟨bi, oi, none⟩) (j - a) (j - a) L ci (by simp [Act.eval, Act.put]) (by simp [Act.eval, Act.put]) g a (by8 bs2) 5 HBX3.out (by8 xb) HMIN.out HPOS.out HFIT.out (by8_one8 xb) w.heap.size w HBE3.out.drew HGE.out ?_; intro w4 hg4 hb4; have HG4 := hg4; have HB5 := Lib.hid hb4; clear hg4 hb4)
              all_goals
                have HX4 := Lib.hid (show Bx w4 g 5 (by8 (putL bs2 a xb)).toArray by rw [← by8_put]; exact HG4.out)
                go_wp2
                go_roundw
                (case rel => exact ⟨q + 1, _, by go_num, by omega, HX4.out, HB5.out, Lib.hid HB4.out.symm⟩)
                (case measure => simp [intOf]; omega)
            · obtain rfl : q = k := by omega
              have HFL := Lib.hid (show bs2 = fileL l by rw [HB3.out, ← HL.out, List.take_length, HNE.out]; rfl)
              have HBL := Lib.hid (show (fileL l).length = j by
                unfold fileL
                rw [fold_len _ _ (fun y hy => by rw [List.length_replicate]; exact end_le hy), List.length_replicate, ← HNE.out])
              have HF := Lib.hid (show Byt wr wr.heap.size (some ⟨g, 0, none⟩) j (fileL l) from ⟨HBL.out, HLT.out, fun _ => ⟨g, 0, rfl, HBX3.out.lt, fun i hi => by
                rw [Nat.zero_add, HBX3.out.cell i, HFL.out]
                simp [by8, hi]⟩⟩)
              clear hlt
              go_wp2
              go_ret
              exact ⟨g, by rw [HBL.out]; rfl, by rw [HBL.out]; exact HF.out, HBE3.out⟩
end Go.Proofs.YtcgapkepbnbabaaDoor.X5
