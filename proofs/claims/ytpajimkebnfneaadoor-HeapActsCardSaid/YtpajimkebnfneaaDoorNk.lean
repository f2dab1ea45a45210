/- Load of a heap's own bytes. -/
import Derived.Test.YtpajimkebnfneaaDoorNi
import Derived.Test.YtpajimkebnfneaaDoorQb
import Derived.WideKeyEntry
namespace Go.Proofs.YtpajimkebnfneaaDoor.X5
set_option linter.unusedVariables false
set_option linter.unusedSimpArgs false
open Go.RowKit Go.Maps Wd Ty9

open Go.ChangeMaps Go.MapKept in
/-- 'h.things[id], at = thing, next' at a number that no thing has: the entry is made, then its value is stored. -/
theorem own_entry {w : World} {b n : Nat} {D : DataW Value} (h : w.ownsMap Tryd.prog 3 Rv b n D) (hn : n < maxLen) {z : Int} (hkey : keyOf Tryd.prog 3 (.int .i64 z) = some (.int .i64 z)) :
    ∃ (v0 : Value) (st : Int) (w1 : World), (Instr.mapEntry 24 (.map (some b)) (.int .i64 z)).run Tryd.prog w = .ok (.tuple #[v0, .int .i64 st]) w1 ∧ (∃ o, w1 = setBlock w b o) ∧
      ∀ val : Value, ∃ w2, (Instr.entryStore 24 (.map (some b)) (.int .i64 st) val).run Tryd.prog w1 = .ok () w2 ∧ w2.ownsMap Tryd.prog 3 Rv b (n + 1) (D.put (.int .i64 z) (.held val)) ∧ w.grownBy w2 (some b) := by
  have hup := fun val : Value => h.update lawI Tryd.underlying24 hn hkey (show Rv val = some (.held val, []) from rfl)
  have K := lawI
  obtain ⟨es, clock, hb, F, hs, hD⟩ := h
  obtain ⟨s1, s2, _⟩ := F.stamped
  have hlt : b < w.heap.size := by
    rcases Nat.lt_or_ge b w.heap.size with h1 | h1
    · exact h1
    · rw [Array.getElem?_eq_none h1] at hb; cases hb
  have twice : ∀ o o' : Obj, setBlock (setBlock w b o) b o' = setBlock w b o' := fun o o' => by
    simp [setBlock]
  rcases K.find w hkey es.toList F.keys with ⟨h1, h2⟩ | ⟨j, e0, h1, h2, h3⟩
  · refine ⟨.slice none 0 0, clock, setBlock w b (.map (es.push ⟨.int .i64 z, .slice none 0 0, clock⟩) (clock + 1)), ?_, ⟨_, rfl⟩, fun val => ?_⟩
    · simp [Instr.mapEntry, run_underlying Tryd.underlying24, MapKept.run_getObj_map hb, K.check w false hkey, h1, zeroB, MapKept.run_setObj_map _ hb, Result.andThen, setBlock, goInt]
    · obtain ⟨w2, hrun, r1, r2⟩ := hup val
      have hw2 : w2 = setBlock w b (.map (es.push ⟨.int .i64 z, val, clock⟩) (clock + 1)) := by
        simp [Instr.mapUpdate, run_underlying Tryd.underlying24, MapKept.run_getObj_map hb, K.check w false hkey, h1, MapKept.run_setObj_map _ hb, Result.andThen] at hrun
        exact hrun.symm
      have hb1 : (setBlock w b (.map (es.push ⟨.int .i64 z, .slice none 0 0, clock⟩) (clock + 1))).heap[b]? = some (.map (es.push ⟨.int .i64 z, .slice none 0 0, clock⟩) (clock + 1)) := heap_setBlock_same hb _
      have hidx : (es.push ⟨.int .i64 z, .slice none 0 0, clock⟩).findIdx? (fun e => ((e.born : Nat) : Int) == ((clock : Nat) : Int)) = some es.size := by
        rw [WideElems.findIdx_arr]
        refine WideElems.findIdx_born (l := (es.push ⟨.int .i64 z, .slice none 0 0, clock⟩).toList) (j := es.size) (e0 := ⟨.int .i64 z, .slice none 0 0, clock⟩) ?_ (by simp)
        simp only [Array.toList_push, List.map_append, List.map_cons, List.map_nil]
        refine List.nodup_append.2 ⟨s2, by simp, fun a ha c hc e1 => ?_⟩
        simp only [List.mem_singleton] at hc
        obtain ⟨x, hx, rfl⟩ := List.mem_map.1 ha
        have := s1 x hx
        omega
      have hmod : (es.push ⟨.int .i64 z, .slice none 0 0, clock⟩).modify es.size (fun e => { e with val := val }) = es.push ⟨.int .i64 z, val, clock⟩ := by
        apply Array.ext'
        rw [Array.toList_modify, Array.toList_push, Array.toList_push, ← Array.length_toList, WideElems.modify_last]
      refine ⟨w2, ?_, r1, r2⟩
      rw [hw2, ← twice (.map (es.push ⟨.int .i64 z, .slice none 0 0, clock⟩) (clock + 1)) (.map (es.push ⟨.int .i64 z, val, clock⟩) (clock + 1))]
      simp [Instr.entryStore, MapKept.run_getObj_map hb1, asInt, asIntOf, hidx, hmod, MapKept.run_setObj_map _ hb1, Result.andThen]
      rfl
  · have hj : es[j]? = some e0 := by simpa using h2
    have hsame : es.modify j (fun e => { e with key := .int .i64 z }) = es := by
      apply Array.ext'
      rw [Array.toList_modify, modify_eq_set _ _ _ _ h2]
      have : ({ e0 with key := .int .i64 z } : MapEntry) = e0 := by rw [← h3]
      rw [this]
      exact WideElems.set_self _ _ _ h2
    refine ⟨e0.val, e0.born, setBlock w b (.map es clock), ?_, ⟨_, rfl⟩, fun val => ?_⟩
    · simp [Instr.mapEntry, run_underlying Tryd.underlying24, MapKept.run_getObj_map hb, K.check w false hkey, h1, hj, h3, K.stays w hkey, hsame, MapKept.run_setObj_map _ hb, Result.andThen, setBlock, goInt]
    · obtain ⟨w2, hrun, r1, r2⟩ := hup val
      have hw2 : w2 = setBlock w b (.map (es.modify j (fun e' => { e' with key := .int .i64 z, val := val })) clock) := by
        simp [Instr.mapUpdate, run_underlying Tryd.underlying24, MapKept.run_getObj_map hb, K.check w false hkey, h1, hj, h3, K.stays w hkey, MapKept.run_setObj_map _ hb, Result.andThen] at hrun
        exact hrun.symm
      have hb1 : (setBlock w b (.map es clock)).heap[b]? = some (.map es clock) := heap_setBlock_same hb _
      have hidx : es.findIdx? (fun e => ((e.born : Nat) : Int) == ((e0.born : Nat) : Int)) = some j := by
        rw [WideElems.findIdx_arr]
        exact WideElems.findIdx_born s2 h2
      have hmod : es.modify j (fun e => { e with val := val }) = es.modify j (fun e' => { e' with key := .int .i64 z, val := val }) := by
        apply Array.ext'
        rw [Array.toList_modify, Array.toList_modify, modify_eq_set _ _ _ _ h2, modify_eq_set _ _ _ _ h2, ← h3]
      refine ⟨w2, ?_, r1, r2⟩
      rw [hw2, ← twice (.map es clock) (.map (es.modify j (fun e' => { e' with key := .int .i64 z, val := val })) clock)]
      simp [Instr.entryStore, MapKept.run_getObj_map hb1, asInt, asIntOf, hidx, hmod, MapKept.run_setObj_map _ hb1, Result.andThen]
      rfl
end Go.Proofs.YtpajimkebnfneaaDoor.X5
