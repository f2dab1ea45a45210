/- Unseal on both sides. -/
import Derived.Test.YtpajimkebnfneaaDoorKcd
import Derived.Deep.LoopGhost
namespace Go.Proofs.YtpajimkebnfneaaDoor.X5
set_option linter.unusedVariables false
set_option linter.unusedSimpArgs false
open Go.RowKit Wd Ty9

theorem lval_inj : ∀ (xs ys : List Nat), xs.length = ys.length → (∀ x ∈ xs, x < 256) → (∀ x ∈ ys, x < 256) → lval xs = lval ys → xs = ys
  | [], [], _, _, _, _ => rfl
  | [], y :: ys, h, _, _, _ => by simp at h
  | x :: xs, [], h, _, _, _ => by simp at h
  | x :: xs, y :: ys, h, hx, hy, he => by
    simp only [lval] at he
    have h1 := hx x (by simp)
    have h2 := hy y (by simp)
    obtain rfl : x = y := by omega
    rw [lval_inj xs ys (by simpa using h) (fun z hz => hx z (by simp [hz])) (fun z hz => hy z (by simp [hz])) (by omega)]
theorem lval_digs (n u : Nat) : lval (digs n false u) = u % 256 ^ n := by
  induction n with
  | zero => simp [digs, lval, Nat.mod_one]
  | succ n ih =>
    rw [digs_snoc, lval_snoc, ih, digs_len]
    unfold dig
    rw [Nat.pow_succ, Nat.mod_mul, Nat.mul_comm (256 ^ n)]
/-- What Unseal tells. -/
def IsUn (bs : List Nat) (e : Int) (out : List Nat) : Prop :=
  (bs.length < 4 ∧ e = 4 ∧ out = []) ∨ (4 ≤ bs.length ∧ bs ≠ sealL (bs.take (bs.length - 4)) ∧ e = 5 ∧ out = []) ∨ (4 ≤ bs.length ∧ bs = sealL (bs.take (bs.length - 4)) ∧ e = 0 ∧ out = bs.take (bs.length - 4))
theorem IsUn.uniq {bs : List Nat} {e1 e2 : Int} {o1 o2 : List Nat} (h1 : IsUn bs e1 o1) (h2 : IsUn bs e2 o2) : e1 = e2 ∧ o1 = o2 := by
  rcases h1 with ⟨a, p, q⟩ | ⟨a, b, p, q⟩ | ⟨a, b, p, q⟩ <;> rcases h2 with ⟨c, r, s⟩ | ⟨c, d, r, s⟩ | ⟨c, d, r, s⟩
  · exact ⟨p.trans r.symm, q.trans s.symm⟩
  · omega
  · omega
  · omega
  · exact ⟨p.trans r.symm, q.trans s.symm⟩
  · exact absurd d b
  · omega
  · exact absurd b d
  · exact ⟨p.trans r.symm, q.trans s.symm⟩
/-- The last four bytes are the sum just if the bytes are sealed. -/
theorem seal_iff {bs : List Nat} (h4 : 4 ≤ bs.length) (hlt : ∀ x ∈ bs, x < 256) : lval ((bs.drop (bs.length - 4)).take 4) = crcN (bs.take (bs.length - 4)) ↔ bs = sealL (bs.take (bs.length - 4)) := by
  have hd : (bs.drop (bs.length - 4)).take 4 = bs.drop (bs.length - 4) := List.take_of_length_le (by rw [List.length_drop]; omega)
  rw [hd]
  have hc := crcN_lt (bs.take (bs.length - 4))
  have hlv := lval_digs 4 (crcN (bs.take (bs.length - 4)))
  rw [Nat.mod_eq_of_lt hc] at hlv
  constructor
  · intro h
    have h2 : bs.drop (bs.length - 4) = digs 4 false (crcN (bs.take (bs.length - 4))) :=
      lval_inj _ _ (by rw [List.length_drop, digs_len]; omega) (fun x hx => hlt x (List.mem_of_mem_drop hx)) (digs_lt _ _ _) (by rw [h, hlv])
    unfold sealL
    rw [← h2, List.take_append_drop]
  · intro h
    have h2 : bs.drop (bs.length - 4) = digs 4 false (crcN (bs.take (bs.length - 4))) := by
      have h3 := List.take_append_drop (bs.length - 4) bs
      have h4 : bs.take (bs.length - 4) ++ bs.drop (bs.length - 4) = bs.take (bs.length - 4) ++ digs 4 false (crcN (bs.take (bs.length - 4))) := by rw [h3]; exact h
      exact List.append_cancel_left h4
    rw [h2, hlv]
theorem byt_pre {w : World} {B : Nat} {A : Option Addr} {m k : Nat} {bs : List Nat} (h : Byt w B A m bs) (hk : k ≤ m) : Byt w B A k (bs.take k) :=
  ⟨by rw [List.length_take, h.len]; omega, fun x hx => h.lt x (List.mem_of_mem_take hx), fun h0 => by
    obtain ⟨b, o, e, h1, h2⟩ := h.at_ (by omega)
    refine ⟨b, o, e, h1, fun j hj => ?_⟩
    rw [List.getElem_take]
    exact h2 j (by rw [List.length_take] at hj; omega)⟩

set_option maxHeartbeats 2000000 in
set_option maxRecDepth 100000 in
theorem unseal_any (A : Option Addr) (m c : Nat) (bs : List Nat) (w : World) (hm : m ≤ 140737488000000) (hc : m ≤ c) (hb : Byt w w.heap.size A m bs) (hG : Gs w) :
    Calls Tryd.prog 29 #[.slice A m c] w fun e w' => ∃ V z out, e = .returned (.tuple #[V, .int .i64 z]) ∧ IsUn bs z out ∧ RowB w' w.heap.size V out ∧ Below w.heap.size w w' := by
  have hl := hb.len
  by_cases h4 : m < 4
  · have HU := Lib.hid (show IsUn bs 4 [] from .inl ⟨by omega, rfl, rfl⟩)
    have s1 : IntKind.i64.wrap ((m : Int) - 4) = (m : Int) - 4 := IntWalk.i64_in _ (by omega)
    have s2 : wrap64 ((m : Int) - 4) = (m : Int) - 4 := by unfold wrap64; omega
    have s3 : (m : Int) - 4 < 0 := by omega
    have s4 : (m : Int) < 4 := by omega
    clear hb hG
    go_enter Tryd.func29, Tryd.ntmps29
    go_wp2
    go_ret2
    first | exact ⟨_, 4, [], rfl, HU.out, RowB.nil _ _, Below.refl _ _⟩ | exact ⟨_, 4, rfl, [], HU.out, RowB.nil _ _, Below.refl _ _⟩
  · obtain ⟨n, hn⟩ : ∃ n, n + 4 = m := ⟨m - 4, by omega⟩
    have HS := Lib.hid (seal_iff (bs := bs) (by omega) hb.lt)
    have hnl : bs.length - 4 = n := by omega
    rw [hnl] at HS
    have HU5 := Lib.hid (fun (h : bs ≠ sealL (bs.take n)) => show IsUn bs 5 [] from .inr (.inl ⟨by omega, by rw [hnl]; exact h, rfl, rfl⟩))
    have HU0 := Lib.hid (fun (h : bs = sealL (bs.take n)) => show IsUn bs 0 (bs.take n) from .inr (.inr ⟨by omega, by rw [hnl]; exact h, rfl, by rw [hnl]⟩))
    have HB := Lib.hid hb
    have HG := Lib.hid hG
    have HO := Lib.hid (oget_ok false 4 n m c A bs w (by omega) (by omega) (by omega) hc (by omega) hb)
    have hlv := lval_lt ((bs.drop n).take 4) (fun x hx => hb.lt x (List.mem_of_mem_drop (List.mem_of_mem_take hx)))
    have hlen4 : ((bs.drop n).take 4).length = 4 := by rw [List.length_take, List.length_drop]; omega
    rw [hlen4] at hlv
    have s1 : IntKind.i64.wrap ((m : Int) - 4) = (n : Int) := by rw [show (m : Int) - 4 = n by omega]; exact IntWalk.i64_in _ (by omega)
    have s2 : wrap64 ((m : Int) - 4) = (n : Int) := by unfold wrap64; omega
    have s3 : ¬ (n : Int) < 0 := by omega
    have s4 : (n : Int) ≤ (c : Int) := by omega
    have e : lows false ((bs.drop n).take 4) = (bs.drop n).take 4 := rfl
    rw [e] at HO
    generalize hS : lval ((bs.drop n).take 4) = S at *
    have q0 : IntKind.u32.wrap (S : Int) = (S : Int) := by simp [IntKind.wrap, IntKind.bits, IntKind.signed]; omega
    clear hb hG hlen4 e hS hnl
    go_enter Tryd.func29, Tryd.ntmps29
    go_wp2_with (go_at_call 30; refine HO.out.mono ?_; rintro _ w1 ⟨rfl, hb⟩; refine Hid.out ?_)
    have HB1 := Lib.hid hb
    have HC := Lib.hid (crc_any A n c (bs.take n) w1 (by omega) (((byt_pre HB.out (k := n) (by omega)).later hb).up hb.size) (HG.out.later hb (Nat.le_refl _)))
    clear hb HO
    generalize hT : crcN (bs.take n) = T at *
    refine go_on ?_
    go_wp2_with (go_at_call 41; refine HC.out.mono ?_; rintro _ w2 ⟨rfl, hb⟩; refine Hid.out ?_)
    have HB2 := Lib.hid (below_more HB1.out hb)
    have HCL := Lib.hid (cloneb_any A n c (bs.take n) w2 (by omega) (((byt_pre HB.out (k := n) (by omega)).later HB2.out).up HB2.out.size))
    clear hb HC hT
    by_cases hst : S = T
    · have HR := Lib.hid (HU0.out (HS.out.mp hst))
      have z1 : ((S : Int) == (T : Int)) = true := by simp; omega
      have z2 : ((S : Int) != (T : Int)) = false := by simp; omega
      clear hst
      refine go_on ?_
      go_wp2_with (go_at_call 23; refine HCL.out.mono ?_; rintro _ w3 ⟨V, rfl, hrow, hb⟩; refine Hid.out ?_)
      have HRW := Lib.hid (hrow.up HB2.out.size)
      have HB3 := Lib.hid (below_more HB2.out hb)
      clear hrow hb HCL
      refine go_on ?_
      go_wp2
      go_ret2
      first | exact ⟨V, 0, bs.take n, rfl, HR.out, HRW.out, HB3.out⟩ | exact ⟨V, 0, rfl, bs.take n, HR.out, HRW.out, HB3.out⟩
    · have HR := Lib.hid (HU5.out (fun h => hst (HS.out.mpr h)))
      have z1 : ((S : Int) == (T : Int)) = false := by simp; omega
      have z2 : ((S : Int) != (T : Int)) = true := by simp; omega
      clear hst HCL
      refine go_on ?_
      go_wp2
      go_ret2
      first | exact ⟨_, 5, [], rfl, HR.out, RowB.nil _ _, HB2.out⟩ | exact ⟨_, 5, rfl, [], HR.out, RowB.nil _ _, HB2.out⟩
end Go.Proofs.YtpajimkebnfneaaDoor.X5
