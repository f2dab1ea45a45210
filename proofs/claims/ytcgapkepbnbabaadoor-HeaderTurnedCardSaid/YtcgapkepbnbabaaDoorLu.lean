/- The law HeaderLays: what Lay made may be written over, and nothing else turns. -/
import Derived.Test.YtcgapkepbnbabaaDoorLt
import Derived.Test.YtcgapkepbnbabaaDoorLr
import Derived.Test.YtcgapkepbnbabaaDoorLm
namespace Go.Proofs.YtcgapkepbnbabaaDoor.X5
set_option linter.unusedVariables false
set_option linter.unusedSimpArgs false
open Go.RowKit Wd Ty9

theorem lay_len {l : List Mg} {room : List Xt} {z : Int} {out : List Mg} (h : IsLay l room z out) : out.length ≤ room.length := by
  rcases h with ⟨_, _, _, _, rfl⟩ | ⟨_, ⟨_, _, rfl⟩ | ⟨_, ⟨_, _, rfl⟩ | ⟨_, ⟨_, _, rfl⟩ | ⟨hs, _, rfl⟩⟩⟩⟩
  · exact Nat.zero_le _
  · exact Nat.zero_le _
  · exact Nat.zero_le _
  · exact Nat.zero_le _
  · refine layL_end room (streamM l) room.length ?_
    unfold restAt
    rw [List.take_length]
    exact List.drop_eq_nil_of_le (by rw [stream_len]; exact hs)
/-- A row of blocks laid open at one block: its bytes may be written over. -/
theorem Ob.open_ {e : TypeId} {w wr : World} {A : Option Addr} {n c β : Nat} {out : List Mg} (h : Ob e w (.slice A n c) out β wr) {i : Nat} {x : Mg} (hx : out[i]? = some x) :
    ∃ b g ci, A = some ⟨b, 0, none⟩ ∧ b < wr.heap.size ∧ w.heap.size ≤ g ∧ g < wr.heap.size ∧ g < β ∧ wr.cell? ⟨b, i * 2, none⟩ = some (.int .i64 x.1) ∧ wr.cell? ⟨b, i * 2 + 1, none⟩ = some (.slice (some ⟨g, 0, none⟩) x.2.length ci) ∧ x.2.length ≤ ci ∧ x.2.length ≤ 140737488355328 ∧
      RowB wr w.heap.size (.slice (some ⟨g, 0, none⟩) x.2.length ci) x.2 ∧
      ∀ q v : Nat, v < 256 → Ob e w (.slice A n c) (out.set i (x.1, x.2.set q v)) β (wr.setCell ⟨g, q, none⟩ (.int .u8 (v : Int))) := by
  obtain ⟨vs, gs, ho, hl, hgl, hp, hlt, hel⟩ := h.ex
  obtain ⟨hi, hxe⟩ := List.getElem?_eq_some_iff.mp hx
  rcases ho.2 with ⟨hv, h1⟩ | ⟨b, cap, cur, hv, hb, hg, hc, _⟩
  · omega
  · injection hv with e1 e2 e3
    subst e1
    have hi2 : i < vs.length := by rw [hl]; exact hi
    have hi3 : i < gs.length := by rw [hgl]; exact hi
    obtain ⟨m1, m2⟩ := mcl_get vs i hi2
    obtain ⟨g, hgi⟩ : ∃ g, gs[i]? = some g := ⟨_, List.getElem?_eq_getElem hi3⟩
    obtain ⟨h1, ⟨c', h2, h2c⟩, h3, h4, h5, h6⟩ := hel i vs[i] x g (List.getElem?_eq_getElem _) hx hgi
    have hadd : ∀ j, (⟨b, 0, none⟩ : Addr).add j = ⟨b, j, none⟩ := fun j => by unfold Addr.add; split <;> simp_all
    have q0 := ho.cells (g := b) rfl _ _ m1
    have q1 := ho.cells (g := b) rfl _ _ m2
    rw [hadd] at q0 q1
    rw [h1] at q0
    rw [h2] at q1 h3
    refine ⟨b, g, c', rfl, (Array.getElem?_eq_some_iff.1 hg).1, (own_lt h3).1, h6, hlt g (List.mem_of_getElem? hgi), q0, q1, h2c, h4, h3, fun q v hv2 => ?_⟩
    obtain ⟨s1, s2⟩ := h3.own.stored q (.int .u8 (v : Int))
    refine ⟨⟨vs, gs, ?_, hl.trans (List.length_set ..).symm, hgl.trans (List.length_set ..).symm, hp, hlt, fun i' v' y g' hv' hy hg' => ?_⟩, h.be.grown s2 h.be.size (fun k hk => ?_), by simpa [World.setCell] using h.le⟩
    · rw [List.length_set]
      exact ho.kept s2 (.inr h5)
    · have hlen : (x.2.set q v).length = x.2.length := List.length_set ..
      by_cases hii : i' = i
      · subst hii
        rw [hgi] at hg'
        obtain rfl := Option.some.inj hg'
        rw [List.getElem?_set_self hi] at hy
        obtain rfl := Option.some.inj hy
        rw [List.getElem?_eq_getElem hi2] at hv'
        obtain rfl := Option.some.inj hv'
        refine ⟨h1, ⟨c', by rw [h2, hlen], by rw [hlen]; exact h2c⟩, ⟨?_, ?_⟩, by rw [hlen]; exact h4, h5, by simpa [World.setCell] using h6⟩
        · rw [h2, hlen, by8_set]; exact s1
        · intro z hz
          rcases List.mem_or_eq_of_mem_set hz with hz | rfl
          · exact h3.lt z hz
          · exact hv2
      · rw [List.getElem?_set_ne (Ne.symm hii)] at hy
        obtain ⟨k1, ⟨c2, k2, k2c⟩, k3, k4, k5, k6⟩ := hel i' v' y g' hv' hy hg'
        have hne : g' ≠ g := by
          intro e
          subst e
          obtain ⟨hj, e1⟩ := List.getElem?_eq_some_iff.mp hg'
          obtain ⟨hj2, e2⟩ := List.getElem?_eq_some_iff.mp hgi
          rcases Nat.lt_or_gt_of_ne hii with hlt2 | hlt2
          · have := List.pairwise_iff_getElem.mp hp i' i hj hj2 hlt2
            omega
          · have := List.pairwise_iff_getElem.mp hp i i' hj2 hj hlt2
            omega
        exact ⟨k1, ⟨c2, k2, k2c⟩, rowb_grown k3 s2 (.inr (by rw [k2]; intro e; exact hne (Option.some.inj e))), k4, k5, by simpa [World.setCell] using k6⟩
    · obtain rfl := Option.some.inj hk
      exact (own_lt h3).1
/-- .. and read where only other blocks have turned. -/
theorem Ob.ms_ch {e : TypeId} {w wr w2 : World} {A : Option Addr} {n c β : Nat} {out : List Mg} (h : Ob e w (.slice A n c) out β wr) (hn : out.length = n) (hs : wr.heap.size ≤ w2.heap.size) (hk : ∀ k, w.heap.size ≤ k → k < wr.heap.size → w2.heap[k]? = wr.heap[k]?) :
    Ms w2 w2.heap.size A n out := by
  refine ⟨hn, fun h0 => ?_⟩
  obtain ⟨x0, hx0⟩ : ∃ x, out[0]? = some x := ⟨_, List.getElem?_eq_getElem (by omega)⟩
  obtain ⟨b, gs, rfl, hb1, hb2, -, -, -⟩ := h.get (by omega)
  refine ⟨b, 0, rfl, Nat.lt_of_lt_of_le hb2 hs, fun i hi => ?_⟩
  obtain ⟨b', g, ci', e, _, hg1, hg2, _, e1, e2, hci, hm, hrow, _⟩ := h.open_ (i := i) (x := out[i]) (List.getElem?_eq_getElem _)
  cases e
  have hbk := hk b hb1 hb2
  have hgk := hk g hg1 hg2
  refine ⟨some ⟨g, 0, none⟩, ci', ?_, ?_, hci, hm, ⟨rfl, hrow.lt, fun hq => ⟨g, 0, rfl, Nat.lt_of_lt_of_le hg2 hs, fun j hj => ?_⟩⟩⟩
  · rw [Nat.zero_add]; exact (World.cell?_of_block (w := wr) (a := ⟨b, i * 2, none⟩) hbk).trans e1
  · rw [Nat.zero_add]; exact (World.cell?_of_block (w := wr) (a := ⟨b, i * 2 + 1, none⟩) hbk).trans e2
  · rw [Nat.zero_add]
    have hc := hrow.own.cellAt j (by omega)
    exact (World.cell?_of_block (w := wr) (a := ⟨g, j, none⟩) hgk).trans (hc.trans (by simp [by8, hj]))
end Go.Proofs.YtcgapkepbnbabaaDoor.X5
