/- The readers: numbers and texts. -/
import Derived.Test.YtbdhihgokkcmfaaJc
import Derived.Test.YtbdhihgokkcmfaaOf
namespace Go.Proofs.Ytbdhihgokkcmfaa.Ty9
set_option linter.unusedVariables false
set_option linter.unusedSimpArgs false
open Go.RowKit Wd

set_option maxHeartbeats 1000000 in
set_option maxRecDepth 100000 in
theorem snum_ok (gs n p m c : Nat) (A : Option Addr) (bs : List Nat) (fl : Bool) (w : World) (h1 : 1 ≤ n) (h8 : n ≤ 8) (hm : m ≤ 140737488355328) (hc : m ≤ c) (hp : p + n ≤ m) (hb : Byt w w.heap.size A m bs) (hB : Bx w gs 81 #[.slice A m c, .int .i64 p, .bool fl]) :
    Calls Try.prog 64 #[.pointer (some ⟨gs, 0, none⟩), .int .i64 n] w fun e w' => e = .returned (.int .i64 (wrap64 (lval (lows true ((bs.drop p).take n)) : Int))) ∧ Bx w' gs 81 #[.slice A m c, .int .i64 ((p : Int) + n), .bool fl] ∧ Ch (fun j => j = gs) w w' := by
  have HG := Lib.hid (show Calls Try.prog 78 #[.slice A m c, .int .i64 p, .int .i64 n, .bool true] w.drew _ from oget_ok true n p m c A bs w.drew h1 h8 hm hc hp hb.drew)
  have HB := Lib.hid hB
  have v0 : w.cell? ⟨gs, 0, none⟩ = some (.slice A m c) := hB.cell 0
  have v1 : w.cell? ⟨gs, 1, none⟩ = some (.int .i64 p) := hB.cell 1
  have s2 : wrap64 ((p : Int) + (n : Int)) = (p : Int) + (n : Int) := by unfold wrap64; omega
  clear hB hp hb
  go_enter Try.func64, Try.ntmps64
  go_upto_region 1 with fail
  go_region_held3 (fun w' => w'.cell? ⟨gs, 0, none⟩ = some (.slice A m c) ∧ w'.cell? ⟨gs, 1, none⟩ = some (.int .i64 p))
    (first
      | (with_reducible exact ⟨b0, b1⟩)
      | exact ⟨v0, v1⟩)
    (first
      | (go_at_call 78; refine HG.out.mono ?_; rintro _ w2 ⟨rfl, hb2⟩; have hx := HB.out.drew.later hb2 HB.out.lt; have b0 : w2.cell? ⟨gs, 0, none⟩ = some (.slice A m c) := hx.cell 0; have b1 : w2.cell? ⟨gs, 1, none⟩ = some (.int .i64 p) := hx.cell 1; have b2 : w2.cell? ⟨gs, 2, none⟩ = some (.bool fl) := hx.cell 2; have z1 := hx.frozen 1; have z2 := hx.frozen 2; have HX := Lib.hid hx; have HW := Lib.hid (below_more ((Below.refl _ w).drew) hb2); clear hb2 hx))
  all_goals
    go_wp2
    go_ret
    exact ⟨rfl, by have h := HX.out.set_ 1 (.int .i64 ((p : Int) + n)); simpa using h, ((Ch.of_below HW.out).trans (R := fun j => j = gs) ⟨rfl, rfl, rfl, by simp [World.setCell], fun k _ hk => Below.heap_setCell _ _ _ _ hk⟩ (fun _ h => h) (fun _ h => h))⟩

set_option maxHeartbeats 1000000 in
set_option maxRecDepth 100000 in
theorem snum_no (gs n p m c : Nat) (A : Option Addr) (fl : Bool) (w : World) (h1 : 1 ≤ n) (h8 : n ≤ 8) (hm : m ≤ 140737488355328) (hc : m ≤ c) (hp : p ≤ m) (hs : m < p + n) (hB : Bx w gs 81 #[.slice A m c, .int .i64 p, .bool fl]) :
    Calls Try.prog 64 #[.pointer (some ⟨gs, 0, none⟩), .int .i64 n] w fun e w' => e = .returned (.int .i64 0) ∧ Bx w' gs 81 #[.slice A m c, .int .i64 p, .bool false] ∧ Ch (fun j => j = gs) w w' := by
  have HG := Lib.hid (show Calls Try.prog 78 #[.slice A m c, .int .i64 p, .int .i64 n, .bool true] w.drew _ from oget_no true n p m c A w.drew h1 h8 hm hp hs)
  have HB := Lib.hid hB
  have v0 : w.cell? ⟨gs, 0, none⟩ = some (.slice A m c) := hB.cell 0
  have v1 : w.cell? ⟨gs, 1, none⟩ = some (.int .i64 p) := hB.cell 1
  have s2 : wrap64 ((p : Int) + (n : Int)) = (p : Int) + (n : Int) := by unfold wrap64; omega
  clear hB hp hs
  go_enter Try.func64, Try.ntmps64
  go_upto_region 1 with fail
  go_region_held3 (fun w' => w'.cell? ⟨gs, 0, none⟩ = some (.slice A m c) ∧ w'.cell? ⟨gs, 1, none⟩ = some (.int .i64 p))
    (first
      | (with_reducible exact ⟨b0, b1⟩)
      | exact ⟨v0, v1⟩)
    (first
      | (go_at_call 78; refine HG.out.mono ?_; rintro _ w2 ⟨rfl, hb2⟩; have hx := HB.out.drew.later hb2 HB.out.lt; have b0 : w2.cell? ⟨gs, 0, none⟩ = some (.slice A m c) := hx.cell 0; have b1 : w2.cell? ⟨gs, 1, none⟩ = some (.int .i64 p) := hx.cell 1; have b2 : w2.cell? ⟨gs, 2, none⟩ = some (.bool fl) := hx.cell 2; have z1 := hx.frozen 1; have z2 := hx.frozen 2; have HX := Lib.hid hx; have HW := Lib.hid (below_more ((Below.refl _ w).drew) hb2); clear hb2 hx))
  all_goals
    go_wp2
    go_ret
    exact ⟨rfl, by have h := HX.out.set_ 2 (.bool false); simpa using h, ((Ch.of_below HW.out).trans (R := fun j => j = gs) ⟨rfl, rfl, rfl, by simp [World.setCell], fun k _ hk => Below.heap_setCell _ _ _ _ hk⟩ (fun _ h => h) (fun _ h => h))⟩

set_option maxHeartbeats 1000000 in
set_option maxRecDepth 100000 in
theorem rnum_ok (gs n p m c : Nat) (A : Option Addr) (bs : List Nat) (fl : Bool) (w : World) (h1 : 1 ≤ n) (h8 : n ≤ 8) (hm : m ≤ 140737488355328) (hc : m ≤ c) (hp : p + n ≤ m) (hb : Byt w w.heap.size A m bs) (hB : Bx w gs 84 #[.slice A m c, .int .i64 p, .bool fl]) :
    Calls Try.prog 66 #[.pointer (some ⟨gs, 0, none⟩), .int .i64 n] w fun e w' => e = .returned (.int .i64 (wrap64 (lval (lows true ((bs.drop p).take n)) : Int))) ∧ Bx w' gs 84 #[.slice A m c, .int .i64 ((p : Int) + n), .bool fl] ∧ Ch (fun j => j = gs) w w' := by
  have HG := Lib.hid (show Calls Try.prog 80 #[.slice A m c, .int .i64 p, .int .i64 n, .bool true] w.drew _ from rget_ok true n p m c A bs w.drew h1 h8 hm  hp hb.drew)
  have HB := Lib.hid hB
  have v0 : w.cell? ⟨gs, 0, none⟩ = some (.slice A m c) := hB.cell 0
  have v1 : w.cell? ⟨gs, 1, none⟩ = some (.int .i64 p) := hB.cell 1
  have s2 : wrap64 ((p : Int) + (n : Int)) = (p : Int) + (n : Int) := by unfold wrap64; omega
  clear hB hp hb
  go_enter Try.func66, Try.ntmps66
  go_upto_region 1 with fail
  go_region_held3 (fun w' => w'.cell? ⟨gs, 0, none⟩ = some (.slice A m c) ∧ w'.cell? ⟨gs, 1, none⟩ = some (.int .i64 p))
    (first
      | (with_reducible exact ⟨b0, b1⟩)
      | exact ⟨v0, v1⟩)
    (first
      | (go_at_call 80; refine HG.out.mono ?_; rintro _ w2 ⟨rfl, hb2⟩; have hx := HB.out.drew.later hb2 HB.out.lt; have b0 : w2.cell? ⟨gs, 0, none⟩ = some (.slice A m c) := hx.cell 0; have b1 : w2.cell? ⟨gs, 1, none⟩ = some (.int .i64 p) := hx.cell 1; have b2 : w2.cell? ⟨gs, 2, none⟩ = some (.bool fl) := hx.cell 2; have z1 := hx.frozen 1; have z2 := hx.frozen 2; have HX := Lib.hid hx; have HW := Lib.hid (below_more ((Below.refl _ w).drew) hb2); clear hb2 hx))
  all_goals
    go_wp2
    go_ret
    exact ⟨rfl, by have h := HX.out.set_ 1 (.int .i64 ((p : Int) + n)); simpa using h, ((Ch.of_below HW.out).trans (R := fun j => j = gs) ⟨rfl, rfl, rfl, by simp [World.setCell], fun k _ hk => Below.heap_setCell _ _ _ _ hk⟩ (fun _ h => h) (fun _ h => h))⟩

set_option maxHeartbeats 1000000 in
set_option maxRecDepth 100000 in
theorem rnum_no (gs n p m c : Nat) (A : Option Addr) (fl : Bool) (w : World) (h1 : 1 ≤ n) (h8 : n ≤ 8) (hm : m ≤ 140737488355328) (hc : m ≤ c) (hp : p ≤ m) (hs : m < p + n) (hB : Bx w gs 84 #[.slice A m c, .int .i64 p, .bool fl]) :
    Calls Try.prog 66 #[.pointer (some ⟨gs, 0, none⟩), .int .i64 n] w fun e w' => e = .returned (.int .i64 0) ∧ Bx w' gs 84 #[.slice A m c, .int .i64 p, .bool true] ∧ Ch (fun j => j = gs) w w' := by
  have HG := Lib.hid (show Calls Try.prog 80 #[.slice A m c, .int .i64 p, .int .i64 n, .bool true] w.drew _ from rget_no true n p m c A w.drew h1 h8 hm hp hs)
  have HB := Lib.hid hB
  have v0 : w.cell? ⟨gs, 0, none⟩ = some (.slice A m c) := hB.cell 0
  have v1 : w.cell? ⟨gs, 1, none⟩ = some (.int .i64 p) := hB.cell 1
  have s2 : wrap64 ((p : Int) + (n : Int)) = (p : Int) + (n : Int) := by unfold wrap64; omega
  clear hB hp hs
  go_enter Try.func66, Try.ntmps66
  go_upto_region 1 with fail
  go_region_held3 (fun w' => w'.cell? ⟨gs, 0, none⟩ = some (.slice A m c) ∧ w'.cell? ⟨gs, 1, none⟩ = some (.int .i64 p))
    (first
      | (with_reducible exact ⟨b0, b1⟩)
      | exact ⟨v0, v1⟩)
    (first
      | (go_at_call 80; refine HG.out.mono ?_; rintro _ w2 ⟨rfl, hb2⟩; have hx := HB.out.drew.later hb2 HB.out.lt; have b0 : w2.cell? ⟨gs, 0, none⟩ = some (.slice A m c) := hx.cell 0; have b1 : w2.cell? ⟨gs, 1, none⟩ = some (.int .i64 p) := hx.cell 1; have b2 : w2.cell? ⟨gs, 2, none⟩ = some (.bool fl) := hx.cell 2; have z1 := hx.frozen 1; have z2 := hx.frozen 2; have HX := Lib.hid hx; have HW := Lib.hid (below_more ((Below.refl _ w).drew) hb2); clear hb2 hx))
  all_goals
    go_wp2
    go_ret
    exact ⟨rfl, by have h := HX.out.set_ 2 (.bool true); simpa using h, ((Ch.of_below HW.out).trans (R := fun j => j = gs) ⟨rfl, rfl, rfl, by simp [World.setCell], fun k _ hk => Below.heap_setCell _ _ _ _ hk⟩ (fun _ h => h) (fun _ h => h))⟩

/-- Bytes do not lie in a reader's box. -/
theorem Byt.box {w : World} {B gs n : Nat} {A : Option Addr} {xs : List Nat} {t : TypeId} {A0 : Option Addr} {m c : Nat} {q : Int} {fl : Bool} (h : Byt w B A n xs) (hx : Bx w gs t #[.slice A0 m c, .int .i64 q, .bool fl]) (i : Nat) (v : Value) : Byt (w.setCell ⟨gs, i, none⟩ v) B A n xs := by
  refine ⟨h.len, h.lt, fun hn => ?_⟩
  obtain ⟨b, o, e, hb, hc⟩ := h.at_ hn
  have hne : b ≠ gs := by
    rintro rfl
    have h0 := hc 0 (by rw [h.len]; exact hn)
    rw [Nat.add_zero, hx.cell o] at h0
    rcases o with _ | _ | _ | o <;> simp at h0
  exact ⟨b, o, e, hb, fun j hj => (World.cell?_of_block (w := w) (a := ⟨b, o + j, none⟩) (Below.heap_setCell _ _ _ _ hne)).trans (hc j hj)⟩

theorem ogetb_yes (p m c k : Nat) (A : Option Addr) (bs : List Nat) (w : World) (hm : m ≤ 140737488355328) (hc : m ≤ c) (hb : Byt w w.heap.size A m bs) (hk : lval (lows true ((bs.drop p).take 4)) = k) (hk2 : k ≤ 65536) (hp : p + 4 + k ≤ m) :
    Calls Try.prog 79 #[.slice A m c, .int .i64 p] w fun e w' => ∃ A' C', e = .returned (.tuple #[.slice A' k C', .int .i64 ((p : Int) + 4 + k), .int .i64 0]) ∧ Byt w' w'.heap.size A' k ((bs.drop (p + 4)).take k) ∧ Below w.heap.size w w' := by
  by_cases hcc : p + 4 < c
  · exact ogetb_ok p m c k A bs w hm hc hb hk hk2 hp hcc
  · obtain rfl : k = 0 := by omega
    obtain rfl : m = p + 4 := by omega
    obtain rfl : c = p + 4 := by omega
    refine (ogetb_ok0 p A bs w hm hb hk).mono fun e w' ⟨A', C', he, h1, h2⟩ => ⟨A', C', ?_, by rw [List.take_zero]; exact h1, h2⟩
    rw [he]
    simp
set_option maxHeartbeats 1000000 in
set_option maxRecDepth 100000 in
theorem stext_ok (gs p m c k : Nat) (A : Option Addr) (bs : List Nat) (fl : Bool) (w : World) (hm : m ≤ 140737488355328) (hc : m ≤ c) (hb : Byt w w.heap.size A m bs) (hk : lval (lows true ((bs.drop p).take 4)) = k) (hk2 : k ≤ 65536) (hp : p + 4 + k ≤ m) (hB : Bx w gs 81 #[.slice A m c, .int .i64 p, .bool fl]) :
    Calls Try.prog 65 #[.pointer (some ⟨gs, 0, none⟩)] w fun e w' => e = .returned (.string (strOf ((bs.drop (p + 4)).take k))) ∧ Bx w' gs 81 #[.slice A m c, .int .i64 ((p : Int) + 4 + k), .bool fl] ∧ Ch (fun j => j = gs) w w' := by
  have HG := Lib.hid (ogetb_yes p m c k A bs w.drew hm hc hb.drew hk hk2 hp)
  have HB := Lib.hid hB
  have v0 : w.cell? ⟨gs, 0, none⟩ = some (.slice A m c) := hB.cell 0
  have v1 : w.cell? ⟨gs, 1, none⟩ = some (.int .i64 p) := hB.cell 1
  generalize (bs.drop (p + 4)).take k = xs at *
  clear hB hb hk hp hm hc hk2
  go_enter Try.func65, Try.ntmps65
  go_upto_region 1 with fail
  go_region_held3 (fun w' => w'.cell? ⟨gs, 0, none⟩ = some (.slice A m c) ∧ w'.cell? ⟨gs, 1, none⟩ = some (.int .i64 p))
    (first
      | (with_reducible exact ⟨b0, b1⟩)
      | exact ⟨v0, v1⟩)
    (first
      | (go_at_call 79; refine HG.out.mono ?_; rintro _ w2 ⟨A', C', rfl, hy, hb2⟩; have hx := HB.out.drew.later hb2 HB.out.lt; have b0 : w2.cell? ⟨gs, 0, none⟩ = some (.slice A m c) := hx.cell 0; have b1 : w2.cell? ⟨gs, 1, none⟩ = some (.int .i64 p) := hx.cell 1; have b2 : w2.cell? ⟨gs, 2, none⟩ = some (.bool fl) := hx.cell 2; have z1 := hx.frozen 1; have z2 := hx.frozen 2; have HX := Lib.hid hx; have HW := Lib.hid (below_more ((Below.refl _ w).drew) hb2); have HY := Lib.hid hy; clear hb2 hx hy))
  all_goals
    have hcv := conv_bytes (HY.out.box HX.out 1 (.int .i64 ((p : Int) + 4 + k))) C'
    go_wp2
    go_ret
    exact ⟨rfl, by have h := HX.out.set_ 1 (.int .i64 ((p : Int) + 4 + k)); simpa using h, ((Ch.of_below HW.out).trans (R := fun j => j = gs) ⟨rfl, rfl, rfl, by simp [World.setCell], fun k _ hk => Below.heap_setCell _ _ _ _ hk⟩ (fun _ h => h) (fun _ h => h))⟩

theorem ogetb_bad (p m c k : Nat) (A : Option Addr) (bs : List Nat) (w : World) (hm : m ≤ 140737488355328) (hc : m ≤ c) (hb : Byt w w.heap.size A m bs) (hk : lval (lows true ((bs.drop p).take 4)) = k) (hp : p ≤ m) (hx : m < p + 4 ∨ 65536 < k ∨ m < p + 4 + k) :
    Calls Try.prog 79 #[.slice A m c, .int .i64 p] w fun e w' => (∃ z : Int, z ≠ 0 ∧ e = .returned (.tuple #[.slice none 0 0, .int .i64 0, .int .i64 z])) ∧ Below w.heap.size w w' := by
  by_cases h4 : m < p + 4
  · exact (ogetb_short p m c A w hm hp h4).mono fun e w' ⟨he, h⟩ => ⟨⟨4, by omega, he⟩, h⟩
  · have h5 := lval_lt (lows true ((bs.drop p).take 4)) (fun x hx => hb.lt x (List.mem_of_mem_drop (List.mem_of_mem_take (lows_mem hx))))
    rw [hk, lows_len] at h5
    have h6 : ((bs.drop p).take 4).length ≤ 4 := by rw [List.length_take]; omega
    have h7 : (256 : Nat) ^ ((bs.drop p).take 4).length ≤ 256 ^ 4 := Nat.pow_le_pow_right (by omega) h6
    exact ogetb_no p m c k A bs w hm hc hb hk (by omega) (by omega) (by omega)
set_option maxHeartbeats 1000000 in
set_option maxRecDepth 100000 in
theorem stext_no (gs p m c k : Nat) (A : Option Addr) (bs : List Nat) (fl : Bool) (w : World) (hm : m ≤ 140737488355328) (hc : m ≤ c) (hb : Byt w w.heap.size A m bs) (hk : lval (lows true ((bs.drop p).take 4)) = k) (hp : p ≤ m) (hx : m < p + 4 ∨ 65536 < k ∨ m < p + 4 + k) (hB : Bx w gs 81 #[.slice A m c, .int .i64 p, .bool fl]) :
    Calls Try.prog 65 #[.pointer (some ⟨gs, 0, none⟩)] w fun e w' => e = .returned (.string ⟨#[]⟩) ∧ Bx w' gs 81 #[.slice A m c, .int .i64 p, .bool false] ∧ Ch (fun j => j = gs) w w' := by
  have HG := Lib.hid (ogetb_bad p m c k A bs w.drew hm hc hb.drew hk hp hx)
  have HB := Lib.hid hB
  have v0 : w.cell? ⟨gs, 0, none⟩ = some (.slice A m c) := hB.cell 0
  have v1 : w.cell? ⟨gs, 1, none⟩ = some (.int .i64 p) := hB.cell 1
  clear hB hb hk hp hm hc hx
  go_enter Try.func65, Try.ntmps65
  go_upto_region 1 with fail
  go_region_held3 (fun w' => w'.cell? ⟨gs, 0, none⟩ = some (.slice A m c) ∧ w'.cell? ⟨gs, 1, none⟩ = some (.int .i64 p))
    (first
      | (with_reducible exact ⟨b0, b1⟩)
      | exact ⟨v0, v1⟩)
    (first
      | (go_at_call 79; refine HG.out.mono ?_; rintro _ w2 ⟨⟨z, hz, rfl⟩, hb2⟩; have hx := HB.out.drew.later hb2 HB.out.lt; have b0 : w2.cell? ⟨gs, 0, none⟩ = some (.slice A m c) := hx.cell 0; have b1 : w2.cell? ⟨gs, 1, none⟩ = some (.int .i64 p) := hx.cell 1; have b2 : w2.cell? ⟨gs, 2, none⟩ = some (.bool fl) := hx.cell 2; have z1 := hx.frozen 1; have z2 := hx.frozen 2; have zb : (z != 0) = true := (by simp [bne, hz]); have HX := Lib.hid hx; have HW := Lib.hid (below_more ((Below.refl _ w).drew) hb2); clear hb2 hx))
  all_goals
    go_wp2
    go_ret
    exact ⟨rfl, by have h := HX.out.set_ 2 (.bool false); simpa using h, ((Ch.of_below HW.out).trans (R := fun j => j = gs) ⟨rfl, rfl, rfl, by simp [World.setCell], fun k _ hk => Below.heap_setCell _ _ _ _ hk⟩ (fun _ h => h) (fun _ h => h))⟩

theorem rgetb_yes (p m c k : Nat) (A : Option Addr) (bs : List Nat) (w : World) (hm : m ≤ 140737488355328) (hc : m ≤ c) (hb : Byt w w.heap.size A m bs) (hk : lval (lows true ((bs.drop p).take 4)) = k) (hk2 : k ≤ 65536) (hp : p + 4 + k ≤ m) :
    Calls Try.prog 81 #[.slice A m c, .int .i64 p] w fun e w' => ∃ A' C', e = .returned (.tuple #[.slice A' k C', .int .i64 ((p : Int) + 4 + k), .int .i64 0]) ∧ Byt w' w'.heap.size A' k ((bs.drop (p + 4)).take k) ∧ Below w.heap.size w w' := by
  by_cases hcc : p + 4 < c
  · exact rgetb_ok p m c k A bs w hm hc hb hk hk2 hp hcc
  · obtain rfl : k = 0 := by omega
    obtain rfl : m = p + 4 := by omega
    obtain rfl : c = p + 4 := by omega
    refine (rgetb_ok0 p A bs w hm hb hk).mono fun e w' ⟨A', C', he, h1, h2⟩ => ⟨A', C', ?_, by rw [List.take_zero]; exact h1, h2⟩
    rw [he]
    simp
set_option maxHeartbeats 1000000 in
set_option maxRecDepth 100000 in
theorem rtext_ok (gs p m c k : Nat) (A : Option Addr) (bs : List Nat) (fl : Bool) (w : World) (hm : m ≤ 140737488355328) (hc : m ≤ c) (hb : Byt w w.heap.size A m bs) (hk : lval (lows true ((bs.drop p).take 4)) = k) (hk2 : k ≤ 65536) (hp : p + 4 + k ≤ m) (hB : Bx w gs 84 #[.slice A m c, .int .i64 p, .bool fl]) :
    Calls Try.prog 67 #[.pointer (some ⟨gs, 0, none⟩)] w fun e w' => e = .returned (.string (strOf ((bs.drop (p + 4)).take k))) ∧ Bx w' gs 84 #[.slice A m c, .int .i64 ((p : Int) + 4 + k), .bool fl] ∧ Ch (fun j => j = gs) w w' := by
  have HG := Lib.hid (rgetb_yes p m c k A bs w.drew hm hc hb.drew hk hk2 hp)
  have HB := Lib.hid hB
  have v0 : w.cell? ⟨gs, 0, none⟩ = some (.slice A m c) := hB.cell 0
  have v1 : w.cell? ⟨gs, 1, none⟩ = some (.int .i64 p) := hB.cell 1
  generalize (bs.drop (p + 4)).take k = xs at *
  clear hB hb hk hp hm hc hk2
  go_enter Try.func67, Try.ntmps67
  go_upto_region 1 with fail
  go_region_held3 (fun w' => w'.cell? ⟨gs, 0, none⟩ = some (.slice A m c) ∧ w'.cell? ⟨gs, 1, none⟩ = some (.int .i64 p))
    (first
      | (with_reducible exact ⟨b0, b1⟩)
      | exact ⟨v0, v1⟩)
    (first
      | (go_at_call 81; refine HG.out.mono ?_; rintro _ w2 ⟨A', C', rfl, hy, hb2⟩; have hx := HB.out.drew.later hb2 HB.out.lt; have b0 : w2.cell? ⟨gs, 0, none⟩ = some (.slice A m c) := hx.cell 0; have b1 : w2.cell? ⟨gs, 1, none⟩ = some (.int .i64 p) := hx.cell 1; have b2 : w2.cell? ⟨gs, 2, none⟩ = some (.bool fl) := hx.cell 2; have z1 := hx.frozen 1; have z2 := hx.frozen 2; have HX := Lib.hid hx; have HW := Lib.hid (below_more ((Below.refl _ w).drew) hb2); have HY := Lib.hid hy; clear hb2 hx hy))
  all_goals
    have hcv := conv_bytes (HY.out.box HX.out 1 (.int .i64 ((p : Int) + 4 + k))) C'
    go_wp2
    go_ret
    exact ⟨rfl, by have h := HX.out.set_ 1 (.int .i64 ((p : Int) + 4 + k)); simpa using h, ((Ch.of_below HW.out).trans (R := fun j => j = gs) ⟨rfl, rfl, rfl, by simp [World.setCell], fun k _ hk => Below.heap_setCell _ _ _ _ hk⟩ (fun _ h => h) (fun _ h => h))⟩

theorem rgetb_bad (p m c k : Nat) (A : Option Addr) (bs : List Nat) (w : World) (hm : m ≤ 140737488355328) (hc : m ≤ c) (hb : Byt w w.heap.size A m bs) (hk : lval (lows true ((bs.drop p).take 4)) = k) (hp : p ≤ m) (hx : m < p + 4 ∨ 65536 < k ∨ m < p + 4 + k) :
    Calls Try.prog 81 #[.slice A m c, .int .i64 p] w fun e w' => (∃ z : Int, z ≠ 0 ∧ e = .returned (.tuple #[.slice none 0 0, .int .i64 0, .int .i64 z])) ∧ Below w.heap.size w w' := by
  by_cases h4 : m < p + 4
  · exact (rgetb_short p m c A w hm hp h4).mono fun e w' ⟨he, h⟩ => ⟨⟨4, by omega, he⟩, h⟩
  · have h5 := lval_lt (lows true ((bs.drop p).take 4)) (fun x hx => hb.lt x (List.mem_of_mem_drop (List.mem_of_mem_take (lows_mem hx))))
    rw [hk, lows_len] at h5
    have h6 : ((bs.drop p).take 4).length ≤ 4 := by rw [List.length_take]; omega
    have h7 : (256 : Nat) ^ ((bs.drop p).take 4).length ≤ 256 ^ 4 := Nat.pow_le_pow_right (by omega) h6
    exact rgetb_no p m c k A bs w hm hc hb hk (by omega) (by omega) (by omega)
set_option maxHeartbeats 1000000 in
set_option maxRecDepth 100000 in
theorem rtext_no (gs p m c k : Nat) (A : Option Addr) (bs : List Nat) (fl : Bool) (w : World) (hm : m ≤ 140737488355328) (hc : m ≤ c) (hb : Byt w w.heap.size A m bs) (hk : lval (lows true ((bs.drop p).take 4)) = k) (hp : p ≤ m) (hx : m < p + 4 ∨ 65536 < k ∨ m < p + 4 + k) (hB : Bx w gs 84 #[.slice A m c, .int .i64 p, .bool fl]) :
    Calls Try.prog 67 #[.pointer (some ⟨gs, 0, none⟩)] w fun e w' => e = .returned (.string ⟨#[]⟩) ∧ Bx w' gs 84 #[.slice A m c, .int .i64 p, .bool true] ∧ Ch (fun j => j = gs) w w' := by
  have HG := Lib.hid (rgetb_bad p m c k A bs w.drew hm hc hb.drew hk hp hx)
  have HB := Lib.hid hB
  have v0 : w.cell? ⟨gs, 0, none⟩ = some (.slice A m c) := hB.cell 0
  have v1 : w.cell? ⟨gs, 1, none⟩ = some (.int .i64 p) := hB.cell 1
  clear hB hb hk hp hm hc hx
  go_enter Try.func67, Try.ntmps67
  go_upto_region 1 with fail
  go_region_held3 (fun w' => w'.cell? ⟨gs, 0, none⟩ = some (.slice A m c) ∧ w'.cell? ⟨gs, 1, none⟩ = some (.int .i64 p))
    (first
      | (with_reducible exact ⟨b0, b1⟩)
      | exact ⟨v0, v1⟩)
    (first
      | (go_at_call 81; refine HG.out.mono ?_; rintro _ w2 ⟨⟨z, hz, rfl⟩, hb2⟩; have hx := HB.out.drew.later hb2 HB.out.lt; have b0 : w2.cell? ⟨gs, 0, none⟩ = some (.slice A m c) := hx.cell 0; have b1 : w2.cell? ⟨gs, 1, none⟩ = some (.int .i64 p) := hx.cell 1; have b2 : w2.cell? ⟨gs, 2, none⟩ = some (.bool fl) := hx.cell 2; have z1 := hx.frozen 1; have z2 := hx.frozen 2; have zb : (z != 0) = true := (by simp [bne, hz]); have HX := Lib.hid hx; have HW := Lib.hid (below_more ((Below.refl _ w).drew) hb2); clear hb2 hx))
  all_goals
    go_wp2
    go_ret
    exact ⟨rfl, by have h := HX.out.set_ 2 (.bool true); simpa using h, ((Ch.of_below HW.out).trans (R := fun j => j = gs) ⟨rfl, rfl, rfl, by simp [World.setCell], fun k _ hk => Below.heap_setCell _ _ _ _ hk⟩ (fun _ h => h) (fun _ h => h))⟩
end Go.Proofs.Ytbdhihgokkcmfaa.Ty9
