/- The readers' numbers and texts as one contract each; what a reader of a type has in memory. -/
import Derived.Test.YtbdhihgokkcmfaaSca
import Derived.Test.YtbdhihgokkcmfaaJf
import Derived.Test.YtbdhihgokkcmfaaEb
import Derived.Test.YtbdhihgokkcmfaaGa
namespace Go.Proofs.Ytbdhihgokkcmfaa.Ty9
set_option linter.unusedVariables false
set_option linter.unusedSimpArgs false
open Go.RowKit Wd

theorem Byt.ch {w w' : World} {gs n : Nat} {A : Option Addr} {xs : List Nat} {t : TypeId} {A0 : Option Addr} {m c : Nat} {q : Int} {fl : Bool} (h : Byt w w.heap.size A n xs) (hx : Bx w gs t #[.slice A0 m c, .int .i64 q, .bool fl]) (hc : Ch (fun j => j = gs) w w') : Byt w' w'.heap.size A n xs := by
  refine ⟨h.len, h.lt, fun hn => ?_⟩
  obtain ⟨b, o, e, hb, hcc⟩ := h.at_ hn
  have hne : b ≠ gs := by
    rintro rfl
    have h0 := hcc 0 (by rw [h.len]; exact hn)
    rw [Nat.add_zero, hx.cell o] at h0
    rcases o with _ | _ | _ | o <;> simp at h0
  exact ⟨b, o, e, Nat.lt_of_lt_of_le hb hc.size, fun j hj => (hc.cell hb hne (o + j)).trans (hcc j hj)⟩

/-- What a number leaves. -/
def NumP (rt : TypeId) (ok : Bool → Bool) (gs m c : Nat) (A : Option Addr) (R : Int × Nat × Bool) (w : World) (e : Ending) (w' : World) : Prop :=
  ∃ v q f, R = (v, q, f) ∧ e = .returned (.int .i64 v) ∧ Bx w' gs rt #[.slice A m c, .int .i64 (q : Int), .bool (ok f)] ∧ Ch (fun j => j = gs) w w' ∧ q ≤ m
def TextP (rt : TypeId) (ok : Bool → Bool) (gs m c : Nat) (A : Option Addr) (R : ByteArray × Nat × Bool) (w : World) (e : Ending) (w' : World) : Prop :=
  ∃ v q f, R = (v, q, f) ∧ e = .returned (.string v) ∧ Bx w' gs rt #[.slice A m c, .int .i64 (q : Int), .bool (ok f)] ∧ Ch (fun j => j = gs) w w' ∧ q ≤ m
theorem snum_any (gs n p m c : Nat) (A : Option Addr) (bs : List Nat) (fl : Bool) (w : World) (h1 : 1 ≤ n) (h8 : n ≤ 8) (hm : m ≤ 140737488355328) (hc : m ≤ c) (hp : p ≤ m) (hb : Byt w w.heap.size A m bs) (hB : Bx w gs 81 #[.slice A m c, .int .i64 p, .bool fl]) :
    Calls Try.prog 64 #[.pointer (some ⟨gs, 0, none⟩), .int .i64 n] w (NumP 81 id gs m c A (nuR bs n (p, fl)) w) := by
  by_cases h : p + n ≤ m
  · have e : nuR bs n (p, fl) = (wrap64 (lval (lows true ((bs.drop p).take n)) : Int), p + n, fl) := by unfold nuR; rw [if_pos (by rw [hb.len]; exact h)]
    rw [e]
    exact (snum_ok gs n p m c A bs fl w h1 h8 hm hc h hb hB).mono fun e w' ⟨he, h2, h3⟩ => ⟨_, _, _, rfl, he, h2, h3, h⟩
  · have e : nuR bs n (p, fl) = (0, p, false) := by unfold nuR; rw [if_neg (by rw [hb.len]; exact h)]
    rw [e]
    exact (snum_no gs n p m c A fl w h1 h8 hm hc hp (by omega) hB).mono fun e w' ⟨he, h2, h3⟩ => ⟨_, _, _, rfl, he, h2, h3, hp⟩
theorem rnum_any (gs n p m c : Nat) (A : Option Addr) (bs : List Nat) (fl : Bool) (w : World) (h1 : 1 ≤ n) (h8 : n ≤ 8) (hm : m ≤ 140737488355328) (hc : m ≤ c) (hp : p ≤ m) (hb : Byt w w.heap.size A m bs) (hB : Bx w gs 84 #[.slice A m c, .int .i64 p, .bool (!fl)]) :
    Calls Try.prog 66 #[.pointer (some ⟨gs, 0, none⟩), .int .i64 n] w (NumP 84 not gs m c A (nuR bs n (p, fl)) w) := by
  by_cases h : p + n ≤ m
  · have e : nuR bs n (p, fl) = (wrap64 (lval (lows true ((bs.drop p).take n)) : Int), p + n, fl) := by unfold nuR; rw [if_pos (by rw [hb.len]; exact h)]
    rw [e]
    exact (rnum_ok gs n p m c A bs (!fl) w h1 h8 hm hc h hb hB).mono fun e w' ⟨he, h2, h3⟩ => ⟨_, _, _, rfl, he, h2, h3, h⟩
  · have e : nuR bs n (p, fl) = (0, p, false) := by unfold nuR; rw [if_neg (by rw [hb.len]; exact h)]
    rw [e]
    exact (rnum_no gs n p m c A (!fl) w h1 h8 hm hc hp (by omega) hB).mono fun e w' ⟨he, h2, h3⟩ => ⟨_, _, _, rfl, he, h2, h3, hp⟩
theorem stext_any (gs p m c : Nat) (A : Option Addr) (bs : List Nat) (fl : Bool) (w : World) (hm : m ≤ 140737488355328) (hc : m ≤ c) (hp : p ≤ m) (hb : Byt w w.heap.size A m bs) (hB : Bx w gs 81 #[.slice A m c, .int .i64 p, .bool fl]) :
    Calls Try.prog 65 #[.pointer (some ⟨gs, 0, none⟩)] w (TextP 81 id gs m c A (txR bs (p, fl)) w) := by
  by_cases h : p + 4 ≤ m ∧ lval (lows true ((bs.drop p).take 4)) ≤ 65536 ∧ p + 4 + lval (lows true ((bs.drop p).take 4)) ≤ m
  · have e : txR bs (p, fl) = (strOf ((bs.drop (p + 4)).take (lval (lows true ((bs.drop p).take 4)))), p + 4 + lval (lows true ((bs.drop p).take 4)), fl) := by unfold txR; rw [if_pos (by rw [hb.len]; exact h)]
    rw [e]
    exact (stext_ok gs p m c _ A bs fl w hm hc hb rfl h.2.1 h.2.2 hB).mono fun e w' ⟨he, h2, h3⟩ => ⟨_, _, _, rfl, he, h2, h3, h.2.2⟩
  · have e : txR bs (p, fl) = (⟨#[]⟩, p, false) := by unfold txR; rw [if_neg (by rw [hb.len]; exact h)]
    rw [e]
    exact (stext_no gs p m c _ A bs fl w hm hc hb rfl hp (by omega) hB).mono fun e w' ⟨he, h2, h3⟩ => ⟨_, _, _, rfl, he, h2, h3, hp⟩
theorem rtext_any (gs p m c : Nat) (A : Option Addr) (bs : List Nat) (fl : Bool) (w : World) (hm : m ≤ 140737488355328) (hc : m ≤ c) (hp : p ≤ m) (hb : Byt w w.heap.size A m bs) (hB : Bx w gs 84 #[.slice A m c, .int .i64 p, .bool (!fl)]) :
    Calls Try.prog 67 #[.pointer (some ⟨gs, 0, none⟩)] w (TextP 84 not gs m c A (txR bs (p, fl)) w) := by
  by_cases h : p + 4 ≤ m ∧ lval (lows true ((bs.drop p).take 4)) ≤ 65536 ∧ p + 4 + lval (lows true ((bs.drop p).take 4)) ≤ m
  · have e : txR bs (p, fl) = (strOf ((bs.drop (p + 4)).take (lval (lows true ((bs.drop p).take 4)))), p + 4 + lval (lows true ((bs.drop p).take 4)), fl) := by unfold txR; rw [if_pos (by rw [hb.len]; exact h)]
    rw [e]
    exact (rtext_ok gs p m c _ A bs (!fl) w hm hc hb rfl h.2.1 h.2.2 hB).mono fun e w' ⟨he, h2, h3⟩ => ⟨_, _, _, rfl, he, h2, h3, h.2.2⟩
  · have e : txR bs (p, fl) = (⟨#[]⟩, p, false) := by unfold txR; rw [if_neg (by rw [hb.len]; exact h)]
    rw [e]
    exact (rtext_no gs p m c _ A bs (!fl) w hm hc hb rfl hp (by omega) hB).mono fun e w' ⟨he, h2, h3⟩ => ⟨_, _, _, rfl, he, h2, h3, hp⟩

/-- What a type's reading leaves. -/
def TakeP (rt : TypeId) (ok : Bool → Bool) (gs m c : Nat) (A : Option Addr) (R : Ty × Nat × Bool) (w : World) (e : Ending) (w' : World) : Prop :=
  ∃ t q f u0 u1 u2 u3 u4 u5 u6 S, R = (t, q, f) ∧ e = .returned (.agg #[u0, u1, u2, u3, u4, u5, u6]) ∧ Lies S w' t (.agg #[u0, u1, u2, u3, u4, u5, u6]) ∧ (∀ k, S k → w.heap.size ≤ k) ∧ Bx w' gs rt #[.slice A m c, .int .i64 (q : Int), .bool (ok f)] ∧ Ch (fun j => j = gs) w w' ∧ q ≤ m

def z7 : Array Value := #[.int .i64 0, .int .i64 0, .bool false, .slice none 0 0, .slice none 0 0, .slice none 0 0, .slice none 0 0]
/-- What a reading has in memory: the reader's box, its own result's box, the type's box, a row that it owns, and what is done before (E, in the blocks S). -/
structure Tk (w wr : World) (rt : TypeId) (ok : Bool → Bool) (gs g m c q : Nat) (A : Option Addr) (f : Bool) (Z : Array Value) (S : Nat → Prop) (E : World → Prop) (e : TypeId) (size n : Nat) (V : Value) (xs : List Value) : Prop where
  gl : gs < w.heap.size
  rg : w.heap.size < g
  ch : Ch (fun j => j = gs) w wr
  bs : Bx wr gs rt #[.slice A m c, .int .i64 (q : Int), .bool (ok f)]
  br : Bx wr w.heap.size 28 #[.int .i64 0, .int .i64 0, .bool false, .slice none 0 0, .slice none 0 0, .slice none 0 0, .slice none 0 0]
  bt : Bx wr g 28 Z
  sb : ∀ k, S k → g < k ∧ k < wr.heap.size
  ne : ∀ k, S k → V.ownBlock ≠ some k
  ex : ∀ w', (∀ k, S k → w'.heap[k]? = wr.heap[k]?) → E w'
  row : wr.ownsRow (g + 1) e size V n xs

section
variable {w wr w2 wt : World} {rt : TypeId} {ok : Bool → Bool} {gs g m c q q2 : Nat} {A : Option Addr} {f f2 : Bool} {Z : Array Value} {S S2 : Nat → Prop} {E E2 : World → Prop} {e e2 : TypeId} {size n n2 size2 : Nat} {V V2 : Value} {xs xs2 : List Value}
theorem Tk.start (gl : gs < w.heap.size) (hr : Bx wr w.heap.size 28 #[.int .i64 0, .int .i64 0, .bool false, .slice none 0 0, .slice none 0 0, .slice none 0 0, .slice none 0 0]) (hs : Bx wr gs rt #[.slice A m c, .int .i64 (q : Int), .bool (ok f)]) (hc : Ch (fun j => j = gs) w wr) (Z : Array Value) (e : TypeId) (size : Nat) :
    Tk w (wr.alloc (.cells Z 28)) rt ok gs wr.heap.size m c q A f Z (fun _ => False) (fun _ => True) e size 0 (.slice none 0 0) [] := by
  have hn := below_new wr (.cells Z 28)
  exact ⟨gl, hr.lt, hc.trans (Ch.of_below hn) (fun _ h => h) (fun _ h => h), hs.later hn hs.lt, hr.later hn hr.lt, Bx.new _ _ _, fun _ h => h.elim, fun _ h => h.elim, fun _ _ => trivial, World.ownsRow_nil _ _ _ _⟩
theorem Tk.vlt (h : Tk w wr rt ok gs g m c q A f Z S E e size n V xs) : ∀ k, V.ownBlock = some k → g < k ∧ k < wr.heap.size := fun k e => by
  have := h.row.lt k e; omega
/-- A call of the reader's, or new blocks. -/
theorem Tk.call (h : Tk w wr rt ok gs g m c q A f Z S E e size n V xs) (hc : Ch (fun j => j = gs) wr w2) (hs : Bx w2 gs rt #[.slice A m c, .int .i64 (q2 : Int), .bool (ok f2)]) :
    Tk w w2 rt ok gs g m c q2 A f2 Z S E e size n V xs := by
  have hgl := h.gl
  have hrg := h.rg
  have hk : ∀ k, k < wr.heap.size → k ≠ gs → w2.heap[k]? = wr.heap[k]? := fun k h1 h2 => hc.block k h1 h2
  refine ⟨hgl, hrg, h.ch.trans hc (fun _ h => h) (fun _ h => h), hs, hc.bx h.br (by omega), hc.bx h.bt (by omega), fun k hk2 => ⟨(h.sb k hk2).1, Nat.lt_of_lt_of_le (h.sb k hk2).2 hc.size⟩, h.ne,
    fun w' hw => h.ex w' fun k hk2 => (hw k hk2).trans (hk k (h.sb k hk2).2 (by have := (h.sb k hk2).1; omega)), ?_⟩
  exact h.row.kept (row := some gs) ⟨hc.os, hc.tape, hc.output, hc.size, fun k hk2 hne => hc.block k hk2 (fun e => hne (by rw [e]))⟩ (.inr fun e2 => by have := h.vlt gs e2; omega)
theorem Tk.alloc (h : Tk w wr rt ok gs g m c q A f Z S E e size n V xs) (o : Obj) : Tk w (wr.alloc o) rt ok gs g m c q A f Z S E e size n V xs :=
  h.call (Ch.of_below (below_new wr o)) (h.bs.later (below_new wr o) h.bs.lt)
theorem Tk.drew (h : Tk w wr rt ok gs g m c q A f Z S E e size n V xs) : Tk w wr.drew rt ok gs g m c q A f Z S E e size n V xs :=
  h.call (Ch.of_below (Below.refl _ _).drew) h.bs
/-- What is done may be told anew; more blocks are taken for it. -/
theorem Tk.more (h : Tk w wr rt ok gs g m c q A f Z S E e size n V xs) (hS : ∀ k, S2 k → g < k ∧ k < wr.heap.size ∧ V.ownBlock ≠ some k) (hE : ∀ w', (∀ k, S2 k → w'.heap[k]? = wr.heap[k]?) → E2 w') :
    Tk w wr rt ok gs g m c q A f Z S2 E2 e size n V xs :=
  ⟨h.gl, h.rg, h.ch, h.bs, h.br, h.bt, fun k hk => ⟨(hS k hk).1, (hS k hk).2.1⟩, fun k hk => (hS k hk).2.2, hE, h.row⟩
/-- A cell of the type's box is written. -/
theorem Tk.set (h : Tk w wr rt ok gs g m c q A f Z S E e size n V xs) (j : Nat) (v : Value) : Tk w (wr.setCell ⟨g, j, none⟩ v) rt ok gs g m c q A f (Z.setIfInBounds j v) S E e size n V xs := by
  have hgl := h.gl
  have hrg := h.rg
  have hk : ∀ k, k ≠ g → (wr.setCell ⟨g, j, none⟩ v).heap[k]? = wr.heap[k]? := fun k hk => Below.heap_setCell _ _ _ _ hk
  have hsz : (wr.setCell ⟨g, j, none⟩ v).heap.size = wr.heap.size := by simp [World.setCell]
  refine ⟨hgl, hrg, ⟨h.ch.os, h.ch.tape, h.ch.output, by rw [hsz]; exact h.ch.size, fun k hk2 hne => (hk k (by omega)).trans (h.ch.block k hk2 hne)⟩, (hk _ (by omega)).trans h.bs, (hk _ (by omega)).trans h.br, h.bt.set_ j v,
    fun k hk2 => ⟨(h.sb k hk2).1, by rw [hsz]; exact (h.sb k hk2).2⟩, h.ne, fun w' hw => h.ex w' fun k hk2 => (hw k hk2).trans (hk k (by have := (h.sb k hk2).1; omega)), ?_⟩
  exact ownsRow_setCell_other (a := ⟨g, j, none⟩) h.row (fun e2 => by have h5 : g < g := (h.vlt g e2).1; omega) v
/-- The row has grown. -/
theorem Tk.grow (h : Tk w wr rt ok gs g m c q A f Z S E e size n V xs) {g9 cap n' : Nat} {xs' : List Value} (hown : wt.ownsRow (g + 1) e size (.slice (some ⟨g9, 0, none⟩) n' cap) n' xs') (hgr : wr.grownBy wt V.ownBlock) (hat : V.ownBlock = some g9 ∨ g9 = wr.heap.size) :
    Tk w wt rt ok gs g m c q A f Z S E e size n' (.slice (some ⟨g9, 0, none⟩) n' cap) xs' := by
  have hgl := h.gl
  have hrg := h.rg
  have hk : ∀ k, k < wr.heap.size → V.ownBlock ≠ some k → wt.heap[k]? = wr.heap[k]? := fun k h1 h2 => hgr.block k h1 (fun e2 => h2 e2.symm)
  have hv : ∀ k, k ≤ g → V.ownBlock ≠ some k := fun k hk e2 => by have := h.vlt k e2; omega
  refine ⟨hgl, hrg, ⟨hgr.os.trans h.ch.os, hgr.tape.trans h.ch.tape, hgr.output.trans h.ch.output, Nat.le_trans h.ch.size hgr.size, fun k hk2 hne => (hk k (Nat.lt_of_lt_of_le hk2 h.ch.size) (hv k (by omega))).trans (h.ch.block k hk2 hne)⟩,
    (hk _ h.bs.lt (hv _ (by omega))).trans h.bs, (hk _ h.br.lt (hv _ (by omega))).trans h.br, (hk _ h.bt.lt (hv _ (by omega))).trans h.bt, fun k hk2 => ⟨(h.sb k hk2).1, Nat.lt_of_lt_of_le (h.sb k hk2).2 hgr.size⟩, fun k hk2 e2 => ?_,
    fun w' hw => h.ex w' fun k hk2 => (hw k hk2).trans (hk k (h.sb k hk2).2 (h.ne k hk2)), hown⟩
  have e3 : g9 = k := by simpa [Value.ownBlock] using e2
  rcases hat with h1 | h1
  · exact h.ne k hk2 (e3 ▸ h1)
  · have := (h.sb k hk2).2; omega
/-- The row is done; another begins. -/
theorem Tk.next (h : Tk w wr rt ok gs g m c q A f Z S E e size n V xs) (hE : ∀ w', (∀ k, (S k ∨ V.ownBlock = some k) → w'.heap[k]? = wr.heap[k]?) → E2 w') (e2 : TypeId) (size2 : Nat) :
    Tk w wr rt ok gs g m c q A f Z (fun k => S k ∨ V.ownBlock = some k) E2 e2 size2 0 (.slice none 0 0) [] :=
  ⟨h.gl, h.rg, h.ch, h.bs, h.br, h.bt, fun k hk => hk.elim (h.sb k) (h.vlt k), fun k _ e => by simp [Value.ownBlock] at e, hE, World.ownsRow_nil _ _ _ _⟩
end

/-- The fields that were read, in rows. -/
def FE (S : Nat → Prop) (fs : List Fd) (rs : List (List Value)) (w' : World) : Prop :=
  rs.length = fs.length ∧ ∀ i (h : i < fs.length) (h' : i < rs.length), ∃ u0 u1 u2 u3 u4 u5 u6, rs[i] = [.string fs[i].name, .int .i64 fs[i].pos, u0, u1, u2, u3, u4, u5, u6] ∧ ∀ B, (∀ g, S g → g < B) → TyAt w' B fs[i].ty (.agg #[u0, u1, u2, u3, u4, u5, u6])
theorem FE.more {S S2 : Nat → Prop} {fs : List Fd} {rs : List (List Value)} {w' : World} (h : FE S fs rs w') (hS : ∀ k, S k → S2 k) : FE S2 fs rs w' :=
  ⟨h.1, fun i hi hi' => by
    obtain ⟨u0, u1, u2, u3, u4, u5, u6, q1, q2⟩ := h.2 i hi hi'
    exact ⟨u0, u1, u2, u3, u4, u5, u6, q1, fun B hB => q2 B fun k hk => hB k (hS k hk)⟩⟩
theorem FE.snoc {S : Nat → Prop} {fs : List Fd} {rs : List (List Value)} {w' : World} (h : FE S fs rs w') (x : Fd) {u0 u1 u2 u3 u4 u5 u6 : Value} (hx : ∀ B, (∀ g, S g → g < B) → TyAt w' B x.ty (.agg #[u0, u1, u2, u3, u4, u5, u6])) :
    FE S (fs ++ [x]) (rs ++ [[.string x.name, .int .i64 x.pos, u0, u1, u2, u3, u4, u5, u6]]) w' := by
  refine ⟨by simp [h.1], fun i hi hi' => ?_⟩
  rcases Nat.lt_or_ge i fs.length with hl | hl
  · obtain ⟨v0, v1, v2, v3, v4, v5, v6, q1, q2⟩ := h.2 i hl (by rw [h.1]; exact hl)
    exact ⟨v0, v1, v2, v3, v4, v5, v6, by rw [List.getElem_append_left (by rw [h.1]; exact hl), List.getElem_append_left hl]; exact q1, by rw [List.getElem_append_left hl]; exact q2⟩
  · have e : i = fs.length := by simp at hi; omega
    subst e
    have e1 : (fs ++ [x])[fs.length]'hi = x := by simp
    have e2 : (rs ++ [[Value.string x.name, .int .i64 x.pos, u0, u1, u2, u3, u4, u5, u6]])[fs.length]'hi' = [.string x.name, .int .i64 x.pos, u0, u1, u2, u3, u4, u5, u6] := by simp [← h.1]
    exact ⟨u0, u1, u2, u3, u4, u5, u6, by rw [e1, e2], by rw [e1]; exact hx⟩
/-- Rows whose block is known. -/
theorem own_cells {w : World} {base : Nat} {e : TypeId} {size n : Nat} {V : Value} {xs : List Value} (h : w.ownsRow base e size V n xs) {w' : World} (hw : ∀ k, V.ownBlock = some k → w'.heap[k]? = w.heap[k]?) :
    ∃ A C, V = .slice A n C ∧ n ≤ C ∧ (0 < n → ∃ g, A = some ⟨g, 0, none⟩ ∧ V.ownBlock = some g ∧ ∀ (j : Nat) (u : Value), xs[j]? = some u → w'.cell? ⟨g, j, none⟩ = some u) := by
  obtain ⟨h1, h2⟩ := h
  rcases h2 with ⟨rfl, rfl⟩ | ⟨g, cap, cur, rfl, hb, hg, hnc, hcur⟩
  · exact ⟨none, 0, rfl, Nat.le_refl _, fun h0 => absurd h0 (Nat.lt_irrefl _)⟩
  · refine ⟨_, cap, rfl, hnc, fun _ => ⟨g, rfl, rfl, fun j u hu => ?_⟩⟩
    have hh : World.ownsRow w base e size (.slice (some ⟨g, 0, none⟩) n cap) n xs := ⟨h1, .inr ⟨g, cap, cur, rfl, hb, hg, hnc, hcur⟩⟩
    exact (World.cell?_of_block (w := w) (a := ⟨g, j, none⟩) (hw g rfl)).trans (by
      have := hh.cells (g := g) rfl j u hu
      rwa [addr_add9, Nat.zero_add] at this)
theorem rows_F {S : Nat → Prop} {w w' : World} {base : Nat} {e : TypeId} {V : Value} {fs : List Fd} {rs : List (List Value)} (h : w.ownsRow base e 9 V fs.length rs.flatten) (hw : ∀ k, V.ownBlock = some k → w'.heap[k]? = w.heap[k]?) (hE : FE S fs rs w') (hS : ∀ k, V.ownBlock = some k → S k) :
    RowsAt S V (hdF fs) (fs.map Fd.ty) rs w' := by
  obtain ⟨A, C, rfl, hc, hcell⟩ := own_cells h hw
  refine ⟨⟨A, C, by rw [hE.1], by rw [hE.1]; exact hc, fun h0 => ?_⟩, fun i hi hi' => ?_⟩
  · obtain ⟨g, rfl, q2, q3⟩ := hcell (by rw [← hE.1]; exact h0)
    exact ⟨g, rfl, hS g q2, q3⟩
  · have hi2 : i < fs.length := by simpa using hi
    obtain ⟨u0, u1, u2, u3, u4, u5, u6, q1, q2⟩ := hE.2 i hi2 hi'
    exact ⟨u0, u1, u2, u3, u4, u5, u6, by rw [q1, hdF_at (List.getElem?_eq_getElem hi2)]; rfl, fun B hB => by rw [List.getElem_map]; exact q2 B hB⟩
theorem row_at {S : Nat → Prop} {w w' : World} {base : Nat} {e : TypeId} {size n : Nat} {V : Value} {xs : List Value} (hsz : 0 < size) (h : w.ownsRow base e size V n xs) (hw : ∀ k, V.ownBlock = some k → w'.heap[k]? = w.heap[k]?) (hS : ∀ k, V.ownBlock = some k → S k) :
    ∃ A C, V = .slice A n C ∧ n ≤ C ∧ RowAt S A xs w' := by
  obtain ⟨A, C, e1, hc, hcell⟩ := own_cells h hw
  refine ⟨A, C, e1, hc, fun h0 => ?_⟩
  have hl := h.1
  have hn : 0 < n := by
    rcases Nat.eq_zero_or_pos n with h1 | h1
    · subst h1; omega
    · exact h1
  obtain ⟨g, q1, q2, q3⟩ := hcell hn
  exact ⟨g, 0, q1, hS g q2, fun j u hu => by rw [Nat.zero_add]; exact q3 j u hu⟩
theorem rows_nil (S : Nat → Prop) (hd : Nat → List Value) (w' : World) : RowsAt S (.slice none 0 0) hd [] [] w' := ⟨⟨none, 0, rfl, Nat.le_refl _, fun h => absurd h (Nat.lt_irrefl _)⟩, fun i h => absurd h (Nat.not_lt_zero _)⟩
theorem row_nil (S : Nat → Prop) (A : Option Addr) (w' : World) : RowAt S A [] w' := fun h => absurd h (Nat.lt_irrefl _)
/-- A base in a row of its own. -/
def BE (S : Nat → Prop) (kb : Nat) (t : Ty) (us : List Value) (w' : World) : Prop :=
  S kb ∧ (∀ (j : Nat) (u : Value), us[j]? = some u → w'.cell? ⟨kb, j, none⟩ = some u) ∧ ∃ u0 u1 u2 u3 u4 u5 u6, us = [u0, u1, u2, u3, u4, u5, u6] ∧ ∀ B, (∀ g, S g → g < B) → TyAt w' B t (.agg #[u0, u1, u2, u3, u4, u5, u6])
theorem BE.rows {S : Nat → Prop} {kb : Nat} {t : Ty} {us : List Value} {w' : World} (h : BE S kb t us w') : RowsAt S (.slice (some ⟨kb, 0, none⟩) 1 1) (fun _ => []) [t] [us] w' := by
  obtain ⟨h1, h2, u0, u1, u2, u3, u4, u5, u6, rfl, h3⟩ := h
  refine ⟨⟨_, 1, rfl, Nat.le_refl _, fun _ => ⟨kb, rfl, h1, fun j u hu => h2 j u (by simpa using hu)⟩⟩, fun i hi hi' => ?_⟩
  obtain rfl : i = 0 := by simp at hi; exact hi
  exact ⟨u0, u1, u2, u3, u4, u5, u6, rfl, h3⟩
theorem BE.more {S S2 : Nat → Prop} {kb : Nat} {t : Ty} {us : List Value} {w' : World} (h : BE S kb t us w') (hS : ∀ k, S k → S2 k) : BE S2 kb t us w' := by
  obtain ⟨h1, h2, u0, u1, u2, u3, u4, u5, u6, rfl, h3⟩ := h
  exact ⟨hS _ h1, h2, u0, u1, u2, u3, u4, u5, u6, rfl, fun B hB => h3 B fun k hk => hB k (hS k hk)⟩

section
variable {w wr wq : World} {rt : TypeId} {ok : Bool → Bool} {gs g m c q : Nat} {A : Option Addr} {f : Bool} {Z : Array Value} {S S' : Nat → Prop} {E : World → Prop} {e : TypeId} {size n : Nat} {V : Value} {xs : List Value}
/-- Another block is written. -/
theorem Tk.away (h : Tk w wr rt ok gs g m c q A f Z S E e size n V xs) {hb : Nat} (h1 : g < hb) (h2 : ¬ S hb) (h3 : V.ownBlock ≠ some hb) (hsz : wq.heap.size = wr.heap.size) (hk : ∀ k, k ≠ hb → wq.heap[k]? = wr.heap[k]?) (ho : wq.os = wr.os) (ht : wq.tape = wr.tape) (hu : wq.output = wr.output) :
    Tk w wq rt ok gs g m c q A f Z S E e size n V xs := by
  have hgl := h.gl
  have hrg := h.rg
  refine ⟨hgl, hrg, ⟨ho.trans h.ch.os, ht.trans h.ch.tape, hu.trans h.ch.output, by rw [hsz]; exact h.ch.size, fun k hk2 hne => (hk k (by omega)).trans (h.ch.block k hk2 hne)⟩, (hk _ (by omega)).trans h.bs, (hk _ (by omega)).trans h.br, (hk _ (by omega)).trans h.bt,
    fun k hk2 => ⟨(h.sb k hk2).1, by rw [hsz]; exact (h.sb k hk2).2⟩, h.ne, fun w' hw => h.ex w' fun k hk2 => (hw k hk2).trans (hk k (fun e => h2 (e ▸ hk2))), ?_⟩
  exact h.row.kept (row := some hb) ⟨ho, ht, hu, by rw [hsz]; exact Nat.le_refl _, fun k hk2 hne => hk k (fun e => hne (by rw [e]))⟩ (.inr h3)
/-- A field was read. -/
theorem Tk.field {fs : List Fd} {rs : List (List Value)} (h : Tk w wr rt ok gs g m c q A f Z S (FE S fs rs) e size n V xs) (x : Fd) {w3 : World} {u0 u1 u2 u3 u4 u5 u6 : Value} (hL : Lies S' wr x.ty (.agg #[u0, u1, u2, u3, u4, u5, u6])) (hw3 : w3.heap.size ≤ wr.heap.size) (hS' : ∀ k, S' k → w3.heap.size ≤ k) (hV : ∀ k, V.ownBlock = some k → k < w3.heap.size) (hg : g < w3.heap.size) :
    Tk w wr rt ok gs g m c q A f Z (fun k => S k ∨ S' k) (FE (fun k => S k ∨ S' k) (fs ++ [x]) (rs ++ [[.string x.name, .int .i64 x.pos, u0, u1, u2, u3, u4, u5, u6]])) e size n V xs := by
  refine h.more (fun k hk => ?_) (fun w' hw => ?_)
  · rcases hk with hk | hk
    · exact ⟨(h.sb k hk).1, (h.sb k hk).2, h.ne k hk⟩
    · have h1 := hS' k hk
      exact ⟨by omega, hL.1 k hk, fun e => by have := hV k e; omega⟩
  · exact ((h.ex w' fun k hk => hw k (.inl hk)).more fun k hk => .inl hk).snoc x fun B hB => hL.2 w' (fun k hk => hw k (.inr hk)) B fun k hk => hB k (.inr hk)
/-- A base was read. -/
theorem Tk.base (h : Tk w wr rt ok gs g m c q A f Z S E e size n V xs) {t : Ty} {w3 : World} {u0 u1 u2 u3 u4 u5 u6 : Value} (hL : Lies S' wr t (.agg #[u0, u1, u2, u3, u4, u5, u6])) (hw3 : w3.heap.size ≤ wr.heap.size) (hS' : ∀ k, S' k → w3.heap.size ≤ k) (hV : ∀ k, V.ownBlock = some k → k < w3.heap.size) (hg : g < w3.heap.size) (bt : TypeId) :
    Tk w (wr.alloc (.cells #[u0, u1, u2, u3, u4, u5, u6] bt)) rt ok gs g m c q A f Z (fun k => S' k ∨ k = wr.heap.size) (BE (fun k => S' k ∨ k = wr.heap.size) wr.heap.size t [u0, u1, u2, u3, u4, u5, u6]) e size n V xs := by
  refine (h.alloc _).more (fun k hk => ?_) (fun w' hw => ?_)
  · rcases hk with hk | rfl
    · have h1 := hS' k hk
      have h2 := hL.1 k hk
      exact ⟨by omega, by rw [size_alloc]; omega, fun e => by have := hV k e; omega⟩
    · exact ⟨h.bt.lt, by rw [size_alloc]; omega, fun e => by have := hV _ e; omega⟩
  · refine ⟨.inr rfl, fun j u hu => ?_, u0, u1, u2, u3, u4, u5, u6, rfl, fun B hB => ?_⟩
    · refine (World.cell?_of_block (w := wr.alloc (.cells #[u0, u1, u2, u3, u4, u5, u6] bt)) (a := ⟨wr.heap.size, j, none⟩) (hw _ (.inr rfl))).trans ?_
      rw [(Bx.new wr bt #[u0, u1, u2, u3, u4, u5, u6]).cell j]
      simpa using hu
    · exact hL.2 w' (fun k hk => (hw k (.inl hk)).trans ((below_new wr _).block k (hL.1 k hk))) B fun k hk => hB k (.inl hk)
/-- The types of the four kinds. -/
theorem Tk.lies_F {wd : Int} {fs : List Fd} {rs : List (List Value)} (h : Tk w wr rt ok gs g m c q A f Z S (FE S fs rs) e 9 fs.length V rs.flatten) (hf : fs.length ≤ 140737488355328) (hfz : ∀ x ∈ fs, x.name.size ≤ 140737488355328) :
    Lies (fun k => S k ∨ V.ownBlock = some k) wr (.mk 5 wd false fs [] [] []) (.agg #[.int .i64 5, .int .i64 wd, .bool false, V, .slice none 0 0, .slice none 0 0, .slice none 0 0]) := by
  refine ⟨fun k hk => hk.elim (fun a => (h.sb k a).2) (fun a => (h.vlt k a).2), fun w' hw B hB => ?_⟩
  have hE := h.ex w' fun k hk => hw k (.inl hk)
  exact own_mk (S := fun k => S k ∨ V.ownBlock = some k) (dA2 := none) (nA2 := none) (dC2 := 0) (nC2 := 0) (rb := []) hf (Nat.zero_le _) (Nat.zero_le _) (Nat.zero_le _) hfz (fun x hx => absurd hx List.not_mem_nil) (fun x hx => absurd hx List.not_mem_nil)
    (row_nil _ _ _) (row_nil _ _ _) (rows_F h.row (fun k hk => hw k (.inr hk)) (hE.more fun k hk => .inl hk) fun k hk => .inr hk) hE.1 (rows_nil _ _ _) rfl (Nat.le_refl _) (Nat.le_refl _) B hB
theorem Tk.lies_D {ds : List Int} {t : Ty} {kb : Nat} {us : List Value} (h : Tk w wr rt ok gs g m c q A f Z S (BE S kb t us) e 1 ds.length V (nums ds)) (hf : ds.length ≤ 140737488355328) :
    Lies (fun k => S k ∨ V.ownBlock = some k) wr (.mk 6 0 false [] ds [t] []) (.agg #[.int .i64 6, .int .i64 0, .bool false, .slice none 0 0, V, .slice (some ⟨kb, 0, none⟩) 1 1, .slice none 0 0]) := by
  refine ⟨fun k hk => hk.elim (fun a => (h.sb k a).2) (fun a => (h.vlt k a).2), fun w' hw B hB => ?_⟩
  have hE := (h.ex w' fun k hk => hw k (.inl hk)).more (S2 := fun k => S k ∨ V.ownBlock = some k) fun k hk => .inl hk
  obtain ⟨A1, C1, e1, hc, hrow⟩ := row_at (S := fun k => S k ∨ V.ownBlock = some k) (by omega) h.row (fun k hk => hw k (.inr hk)) fun k hk => .inr hk
  have hl := own_mk (S := fun k => S k ∨ V.ownBlock = some k) (c := 6) (wd := 0) (b := false) (fs := []) (ds := ds) (bs := [t]) (ns := []) (FV := .slice none 0 0) (nA2 := none) (nC2 := 0) (rf := []) (rb := [us]) (Nat.zero_le _) hf (by simp) (Nat.zero_le _) (fun x hx => absurd hx List.not_mem_nil) (fun x hx => absurd hx List.not_mem_nil) (fun x hx => absurd hx List.not_mem_nil)
    hrow (row_nil _ _ _) (rows_nil _ _ _) rfl hE.rows rfl hc (Nat.le_refl _) B hB
  rw [← e1] at hl
  exact hl
theorem Tk.lies_N {ns : List (ByteArray × Int)} {t : Ty} {kb : Nat} {us : List Value} (h : Tk w wr rt ok gs g m c q A f Z S (BE S kb t us) e 2 ns.length V (mem2 ns)) (hf : ns.length ≤ 140737488355328) (hnz : ∀ x ∈ ns, x.1.size ≤ 140737488355328 ∧ -9223372036854775808 ≤ x.2 ∧ x.2 ≤ 9223372036854775807) :
    Lies (fun k => S k ∨ V.ownBlock = some k) wr (.mk 7 0 false [] [] [t] ns) (.agg #[.int .i64 7, .int .i64 0, .bool false, .slice none 0 0, .slice none 0 0, .slice (some ⟨kb, 0, none⟩) 1 1, V]) := by
  refine ⟨fun k hk => hk.elim (fun a => (h.sb k a).2) (fun a => (h.vlt k a).2), fun w' hw B hB => ?_⟩
  have hE := (h.ex w' fun k hk => hw k (.inl hk)).more (S2 := fun k => S k ∨ V.ownBlock = some k) fun k hk => .inl hk
  obtain ⟨A1, C1, e1, hc, hrow⟩ := row_at (S := fun k => S k ∨ V.ownBlock = some k) (by omega) h.row (fun k hk => hw k (.inr hk)) fun k hk => .inr hk
  have hl := own_mk (S := fun k => S k ∨ V.ownBlock = some k) (c := 7) (wd := 0) (b := false) (fs := []) (ds := []) (bs := [t]) (ns := ns) (FV := .slice none 0 0) (dA2 := none) (dC2 := 0) (rf := []) (rb := [us]) (Nat.zero_le _) (Nat.zero_le _) (by simp) hf (fun x hx => absurd hx List.not_mem_nil) (fun x hx => (hnz x hx).1) (fun x hx => (hnz x hx).2)
    (row_nil _ _ _) hrow (rows_nil _ _ _) rfl hE.rows rfl (Nat.le_refl _) hc B hB
  rw [← e1] at hl
  exact hl
theorem lies_0 (S : Nat → Prop) (hS : ∀ k, S k → k < wr.heap.size) (cl wd : Int) (b : Bool) : Lies S wr (.mk cl wd b [] [] [] []) (.agg #[.int .i64 cl, .int .i64 wd, .bool b, .slice none 0 0, .slice none 0 0, .slice none 0 0, .slice none 0 0]) :=
  ⟨hS, fun w' _ B hB => own_mk (S := S) (fs := []) (ds := []) (bs := []) (ns := []) (dA2 := none) (nA2 := none) (dC2 := 0) (nC2 := 0) (rf := []) (rb := []) (Nat.zero_le _) (Nat.zero_le _) (Nat.zero_le _) (Nat.zero_le _) (fun x hx => absurd hx List.not_mem_nil) (fun x hx => absurd hx List.not_mem_nil) (fun x hx => absurd hx List.not_mem_nil)
    (row_nil _ _ _) (row_nil _ _ _) (rows_nil _ _ _) rfl (rows_nil _ _ _) rfl (Nat.le_refl _) (Nat.le_refl _) B hB⟩
/-- The result is laid into its box. -/
theorem take_fin {t : Ty} {R : Ty × Nat × Bool} {u0 u1 u2 u3 u4 u5 u6 : Value} (hgl : gs < w.heap.size) (hc : Ch (fun j => j = gs) w wr) (hs : Bx wr gs rt #[.slice A m c, .int .i64 (q : Int), .bool (ok f)]) (hL : Lies S wr t (.agg #[u0, u1, u2, u3, u4, u5, u6])) (hS : ∀ k, S k → w.heap.size < k) (hq : q ≤ m) (hR : R = (t, q, f)) :
    TakeP rt ok gs m c A R w (.returned (.agg #[u0, u1, u2, u3, u4, u5, u6])) (((((((wr.setCell ⟨w.heap.size, 0, none⟩ u0).setCell ⟨w.heap.size, 1, none⟩ u1).setCell ⟨w.heap.size, 2, none⟩ u2).setCell ⟨w.heap.size, 3, none⟩ u3).setCell ⟨w.heap.size, 4, none⟩ u4).setCell ⟨w.heap.size, 5, none⟩ u5).setCell ⟨w.heap.size, 6, none⟩ u6) := by
  have e : wr.setCells w.heap.size 0 [u0, u1, u2, u3, u4, u5, u6] = (((((((wr.setCell ⟨w.heap.size, 0, none⟩ u0).setCell ⟨w.heap.size, 1, none⟩ u1).setCell ⟨w.heap.size, 2, none⟩ u2).setCell ⟨w.heap.size, 3, none⟩ u3).setCell ⟨w.heap.size, 4, none⟩ u4).setCell ⟨w.heap.size, 5, none⟩ u5).setCell ⟨w.heap.size, 6, none⟩ u6) := by
    simp only [World.setCells]
  rw [← e]
  obtain ⟨q1, q2, q3, q4, q5⟩ := setCells_keep w.heap.size [u0, u1, u2, u3, u4, u5, u6] 0 wr
  refine ⟨t, q, f, u0, u1, u2, u3, u4, u5, u6, S, hR, rfl, hL.keep (fun k hk => q5 k (by have := hS k hk; omega)) (by rw [q1]; exact Nat.le_refl _), fun k hk => Nat.le_of_lt (hS k hk), (q5 _ (by omega)).trans hs, ?_, hq⟩
  exact ⟨q2.trans hc.os, q3.trans hc.tape, q4.trans hc.output, by rw [q1]; exact hc.size, fun k hk hne => (q5 k (by omega)).trans (hc.block k hk hne)⟩
theorem Tk.fin {t : Ty} {R : Ty × Nat × Bool} {u0 u1 u2 u3 u4 u5 u6 : Value} (h : Tk w wr rt ok gs g m c q A f Z S E e size n V xs) (hL : Lies S' wr t (.agg #[u0, u1, u2, u3, u4, u5, u6])) (hS : ∀ k, S' k → S k ∨ V.ownBlock = some k) (hq : q ≤ m) (hR : R = (t, q, f)) :
    TakeP rt ok gs m c A R w (.returned (.agg #[u0, u1, u2, u3, u4, u5, u6])) (((((((wr.setCell ⟨w.heap.size, 0, none⟩ u0).setCell ⟨w.heap.size, 1, none⟩ u1).setCell ⟨w.heap.size, 2, none⟩ u2).setCell ⟨w.heap.size, 3, none⟩ u3).setCell ⟨w.heap.size, 4, none⟩ u4).setCell ⟨w.heap.size, 5, none⟩ u5).setCell ⟨w.heap.size, 6, none⟩ u6) :=
  take_fin h.gl h.ch h.bs hL (fun k hk => by
    have h1 := h.rg
    rcases hS k hk with h2 | h2
    · have := (h.sb k h2).1; omega
    · have := (h.vlt k h2).1; omega) hq hR
theorem set7b {w2 : World} {g : Nat} {t : TypeId} {n p x0 x1 x2 x3 x4 x5 x6 : Value} (h : Bx w2 g t #[n, p, x0, x1, x2, x3, x4, x5, x6]) (u0 u1 u2 u3 u4 u5 u6 : Value) :
    ∃ wq, (((((((w2.setCell ⟨g, 2, none⟩ u0).setCell ⟨g, 3, none⟩ u1).setCell ⟨g, 4, none⟩ u2).setCell ⟨g, 5, none⟩ u3).setCell ⟨g, 6, none⟩ u4).setCell ⟨g, 7, none⟩ u5).setCell ⟨g, 8, none⟩ u6) = wq ∧
      Bx wq g t #[n, p, u0, u1, u2, u3, u4, u5, u6] ∧ wq.heap.size = w2.heap.size ∧ (∀ k, k ≠ g → wq.heap[k]? = w2.heap[k]?) ∧ wq.os = w2.os ∧ wq.tape = w2.tape ∧ wq.output = w2.output := by
  refine ⟨_, rfl, ?_, ?_, fun k hk => ?_, by simp [World.setCell], by simp [World.setCell], by simp [World.setCell]⟩
  · have h9 := ((((((h.set_ 2 u0).set_ 3 u1).set_ 4 u2).set_ 5 u3).set_ 6 u4).set_ 7 u5).set_ 8 u6
    simpa using h9
  · simp [World.setCell]
  · rw [Below.heap_setCell _ _ _ _ hk, Below.heap_setCell _ _ _ _ hk, Below.heap_setCell _ _ _ _ hk, Below.heap_setCell _ _ _ _ hk, Below.heap_setCell _ _ _ _ hk, Below.heap_setCell _ _ _ _ hk, Below.heap_setCell _ _ _ _ hk]
theorem nums_snoc (ds : List Int) (d : Int) : nums (ds ++ [d]) = nums ds ++ [.int .i64 d] := by simp [nums]
theorem mem2_snoc (ns : List (ByteArray × Int)) (x : ByteArray × Int) : mem2 (ns ++ [x]) = mem2 ns ++ [.string x.1, .int .i64 x.2] := by simp [mem2]
end
end Go.Proofs.Ytbdhihgokkcmfaa.Ty9
