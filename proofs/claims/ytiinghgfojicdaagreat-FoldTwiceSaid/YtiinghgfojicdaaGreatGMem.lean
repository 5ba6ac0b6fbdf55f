/- Records in memory: rows of cells, each a plain value or a slice of a row of its own; what keeps them; rows of the call's own. No conditions. -/
import Derived.Test.YtiinghgfojicdaaGreatFRow
set_option linter.unusedVariables false
set_option linter.unusedSimpArgs false
namespace Go.GMem
open Go.RowKit Go.RowG Go.FRow
set_option linter.unusedVariables false

/-- A row of cells: a plain value, or a slice of n elements whose cells are sub; and the others. -/
inductive G where
  | nil : G
  | lit (v : Value) (r : G) : G
  | row (n : Nat) (sub r : G) : G
def G.app : G → G → G
  | .nil, h => h
  | .lit v r, h => .lit v (r.app h)
  | .row n s r, h => .row n s (r.app h)
def G.len : G → Nat
  | .nil => 0
  | .lit _ r => r.len + 1
  | .row _ _ r => r.len + 1
theorem G.app_nil : ∀ g : G, g.app .nil = g
  | .nil => rfl
  | .lit _ r => by simp only [G.app, G.app_nil r]
  | .row _ _ r => by simp only [G.app, G.app_nil r]
theorem G.app_assoc : ∀ f g h : G, (f.app g).app h = f.app (g.app h)
  | .nil, _, _ => rfl
  | .lit _ r, g, h => by simp only [G.app, G.app_assoc r g h]
  | .row _ _ r, g, h => by simp only [G.app, G.app_assoc r g h]
theorem G.app_len : ∀ f g : G, (f.app g).len = f.len + g.len
  | .nil, g => by simp [G.app, G.len]
  | .lit _ r, g => by simp only [G.app, G.len, G.app_len r g]; omega
  | .row _ _ r, g => by simp only [G.app, G.len, G.app_len r g]; omega

/-- The values xs are such cells; what they lead to lies in blocks within S. -/
def GCells (w : World) (S : Nat → Prop) : G → List Value → Prop
  | .nil, xs => xs = []
  | .lit v r, xs => ∃ ys, xs = v :: ys ∧ v.oneCell' = true ∧ GCells w S r ys
  | .row n sub r, xs => ∃ A c ys, xs = .slice A n c :: ys ∧ n ≤ c ∧ c ≤ maxLen ∧
      (0 < n → ∃ b o zs, A = some ⟨b, o, none⟩ ∧ S b ∧ GCells w S sub zs ∧ ∀ j u, zs[j]? = some u → w.cell? ⟨b, o + j, none⟩ = some u) ∧ GCells w S r ys
/-- The slice's elements: their cells are sub. -/
def GRow (w : World) (S : Nat → Prop) (A : Option Addr) (n : Nat) (sub : G) : Prop :=
  0 < n → ∃ b o zs, A = some ⟨b, o, none⟩ ∧ S b ∧ GCells w S sub zs ∧ ∀ j u, zs[j]? = some u → w.cell? ⟨b, o + j, none⟩ = some u
theorem GCells.keep {w w' : World} {S S' : Nat → Prop} (hS : ∀ b, S b → S' b) (hk : ∀ p : Addr, S p.block → w'.cell? p = w.cell? p) : ∀ {g : G} {xs : List Value}, GCells w S g xs → GCells w' S' g xs
  | .nil, _, h => h
  | .lit v r, _, ⟨ys, e, h1, h2⟩ => ⟨ys, e, h1, GCells.keep hS hk h2⟩
  | .row n sub r, _, ⟨A, c, ys, e, h1, h2, h3, h4⟩ => ⟨A, c, ys, e, h1, h2, fun hn => by
      obtain ⟨b, o, zs, e', hb, hz, hc⟩ := h3 hn
      exact ⟨b, o, zs, e', hS b hb, GCells.keep hS hk hz, fun j u hu => (hk ⟨b, o + j, none⟩ hb).trans (hc j u hu)⟩, GCells.keep hS hk h4⟩
theorem GRow.keep {w w' : World} {S S' : Nat → Prop} {A : Option Addr} {n : Nat} {sub : G} (h : GRow w S A n sub) (hS : ∀ b, S b → S' b) (hk : ∀ p : Addr, S p.block → w'.cell? p = w.cell? p) : GRow w' S' A n sub := fun hn => by
  obtain ⟨b, o, zs, e', hb, hz, hc⟩ := h hn
  exact ⟨b, o, zs, e', hS b hb, hz.keep hS hk, fun j u hu => (hk ⟨b, o + j, none⟩ hb).trans (hc j u hu)⟩
theorem GCells.below {w w' : World} {g : G} {xs : List Value} (h : GCells w (lt w) g xs) (hb : Below w.heap.size w w') : GCells w' (lt w') g xs :=
  h.keep (fun _ h => Nat.lt_of_lt_of_le h hb.size) fun _ hp => hb.cell hp
theorem GRow.below {w w' : World} {A : Option Addr} {n : Nat} {g : G} (h : GRow w (lt w) A n g) (hb : Below w.heap.size w w') : GRow w' (lt w') A n g :=
  h.keep (fun _ h => Nat.lt_of_lt_of_le h hb.size) fun _ hp => hb.cell hp
theorem GCells.mono {w : World} {S S' : Nat → Prop} {g : G} {xs : List Value} (h : GCells w S g xs) (hS : ∀ b, S b → S' b) : GCells w S' g xs := h.keep hS fun _ _ => rfl
theorem GRow.mono {w : World} {S S' : Nat → Prop} {A : Option Addr} {n : Nat} {g : G} (h : GRow w S A n g) (hS : ∀ b, S b → S' b) : GRow w S' A n g := h.keep hS fun _ _ => rfl
theorem GCells.rolled {w w' : World} {S S' : Nat → Prop} {g : Nat} {f : G} {xs : List Value} (h : GCells w S f xs) (hr : Rolled g w w') (hS : ∀ b, S b → S' b) (hb : ∀ b, S b → b < w.heap.size ∧ b ≠ g) : GCells w' S' f xs :=
  h.keep hS fun p hp => hr.cell (hb _ hp).1 (hb _ hp).2
theorem GRow.rolled {w w' : World} {S S' : Nat → Prop} {g : Nat} {A : Option Addr} {n : Nat} {f : G} (h : GRow w S A n f) (hr : Rolled g w w') (hS : ∀ b, S b → S' b) (hb : ∀ b, S b → b < w.heap.size ∧ b ≠ g) : GRow w' S' A n f :=
  h.keep hS fun p hp => hr.cell (hb _ hp).1 (hb _ hp).2
theorem GRow.nil (w : World) (S : Nat → Prop) (A : Option Addr) (g : G) : GRow w S A 0 g := fun h => absurd h (by omega)
theorem GCells.app {w : World} {S : Nat → Prop} : ∀ {g h : G} {xs ys : List Value}, GCells w S g xs → GCells w S h ys → GCells w S (g.app h) (xs ++ ys)
  | .nil, _, _, _, h, h' => by
    simp only [GCells] at h
    subst h
    exact h'
  | .lit v r, _, _, _, ⟨zs, e, h1, h2⟩, h' => by
    subst e
    exact ⟨_, rfl, h1, GCells.app h2 h'⟩
  | .row n sub r, _, _, _, ⟨A, c, zs, e, h1, h2, h3, h4⟩, h' => by
    subst e
    exact ⟨A, c, _, rfl, h1, h2, h3, GCells.app h4 h'⟩
theorem GCells.split {w : World} {S : Nat → Prop} : ∀ {g h : G} {xs : List Value}, GCells w S (g.app h) xs → ∃ ys zs, xs = ys ++ zs ∧ GCells w S g ys ∧ GCells w S h zs
  | .nil, _, xs, h => ⟨[], xs, rfl, rfl, h⟩
  | .lit v r, _, _, ⟨zs, e, h1, h2⟩ => by
    obtain ⟨a, b, e', h3, h4⟩ := GCells.split h2
    subst e e'
    exact ⟨_, b, rfl, ⟨_, rfl, h1, h3⟩, h4⟩
  | .row n sub r, _, _, ⟨A, c, zs, e, h1, h2, h3, h4⟩ => by
    obtain ⟨a, b, e', h5, h6⟩ := GCells.split h4
    subst e e'
    exact ⟨_, b, rfl, ⟨A, c, _, rfl, h1, h2, h3, h5⟩, h6⟩
theorem GCells.length {w : World} {S : Nat → Prop} : ∀ {g : G} {xs : List Value}, GCells w S g xs → xs.length = g.len
  | .nil, _, h => by
    simp only [GCells] at h
    subst h
    rfl
  | .lit v r, _, ⟨zs, e, h1, h2⟩ => by
    subst e
    simp only [List.length_cons, G.len, GCells.length h2]
  | .row n sub r, _, ⟨A, c, zs, e, h1, h2, h3, h4⟩ => by
    subst e
    simp only [List.length_cons, G.len, GCells.length h4]
theorem GCells.one {w : World} {S : Nat → Prop} : ∀ {g : G} {xs : List Value}, GCells w S g xs → ∀ u ∈ xs, u.oneCell' = true
  | .nil, _, h => by
    simp only [GCells] at h
    subst h
    simp
  | .lit v r, _, ⟨zs, e, h1, h2⟩ => by
    subst e
    intro u hu
    rcases List.mem_cons.1 hu with rfl | hu
    · exact h1
    · exact GCells.one h2 u hu
  | .row n sub r, _, ⟨A, c, zs, e, h1, h2, h3, h4⟩ => by
    subst e
    intro u hu
    rcases List.mem_cons.1 hu with rfl | hu
    · rfl
    · exact GCells.one h4 u hu

/-- A row of the call's own: made from block base on. -/
def OwnG (e : TypeId) (size : Nat) (w : World) (base : Nat) (v : Value) (n : Nat) (g : G) : Prop := ∃ xs, w.ownsRow base e size v n xs ∧ GCells w (fun b => base ≤ b ∧ b < w.heap.size ∧ some b ≠ v.ownBlock) g xs
theorem OwnG.nil (e : TypeId) (size : Nat) (w : World) (base : Nat) : OwnG e size w base (.slice none 0 0) 0 .nil := ⟨[], World.ownsRow_nil _ _ _ _, rfl⟩
theorem OwnG.kept {e : TypeId} {size : Nat} {w w' : World} {base n : Nat} {v : Value} {g : G} (h : OwnG e size w base v n g) (hb : Below w.heap.size w w') : OwnG e size w' base v n g := by
  obtain ⟨xs, hown, hf⟩ := h
  exact ⟨xs, hown.kept ⟨hb.os, hb.tape, hb.output, hb.size, fun k hk _ => hb.block k hk⟩ (Classical.em _), hf.keep (fun b h => ⟨h.1, Nat.lt_of_lt_of_le h.2.1 hb.size, h.2.2⟩) fun p hp => hb.cell hp.2.1⟩
theorem OwnG.rolled {e : TypeId} {size : Nat} {w w' : World} {base n d : Nat} {v : Value} {g : G} (h : OwnG e size w base v n g) (hr : Rolled d w w') (hd : d < base) : OwnG e size w' base v n g := by
  obtain ⟨xs, hown, hf⟩ := h
  exact ⟨xs, hown.kept (row := some d) ⟨hr.os, hr.tape, hr.output, hr.size, fun k hk hne => hr.block k hk fun e => hne (by rw [e])⟩ (Or.inr fun e => by have := (hown.lt d e).1; omega),
    hf.keep (fun b h => ⟨h.1, Nat.lt_of_lt_of_le h.2.1 hr.size, h.2.2⟩) fun p hp => hr.cell hp.2.1 (by have := hp.1; omega)⟩
theorem OwnG.setCell {e : TypeId} {size : Nat} {w : World} {base n : Nat} {v : Value} {g : G} (h : OwnG e size w base v n g) {a : Addr} (ha : a.block < base) (u : Value) : OwnG e size (w.setCell a u) base v n g := by
  obtain ⟨xs, hown, hf⟩ := h
  refine ⟨xs, ownsRow_setCell_below hown ha u, hf.keep (fun b h => ⟨h.1, by simpa [World.setCell] using h.2.1, h.2.2⟩) fun p hp => World.cell?_of_block (Below.heap_setCell _ _ _ _ (by have := hp.1; omega))⟩
/-- What was appended is more of it. -/
theorem OwnG.snoc {e : TypeId} {size : Nat} {w w' : World} {base m : Nat} {v v' : Value} {g h : G} {o : Obj} {xs ys : List Value}
    (hf : GCells w (fun b => base ≤ b ∧ b < w.heap.size ∧ some b ≠ v.ownBlock) g xs) (hh : GCells w (fun b => base ≤ b ∧ b < w.heap.size ∧ some b ≠ v.ownBlock) h ys)
    (hown' : w'.ownsRow base e size v' m (xs ++ ys)) (hg : (w.alloc o).grownBy w' v.ownBlock) (hv : v'.ownBlock = v.ownBlock ∨ v'.ownBlock = some (w.heap.size + 1)) : OwnG e size w' base v' m (g.app h) := by
  have hsz : w.heap.size + 1 ≤ w'.heap.size := by have := hg.size; simpa using this
  have hS : ∀ b, (base ≤ b ∧ b < w.heap.size ∧ some b ≠ v.ownBlock) → (base ≤ b ∧ b < w'.heap.size ∧ some b ≠ v'.ownBlock) := fun b ⟨h0, hb, hne⟩ => ⟨h0, by omega, by
    rcases hv with h | h
    · rw [h]; exact hne
    · rw [h]; intro e; injection e with e; omega⟩
  have hk : ∀ p : Addr, (base ≤ p.block ∧ p.block < w.heap.size ∧ some p.block ≠ v.ownBlock) → w'.cell? p = w.cell? p := fun p ⟨_, hb, hne⟩ =>
    World.cell?_of_block ((hg.block p.block (by simp; omega) hne).trans (Below.heap_alloc _ _ _ hb))
  exact ⟨_, hown', (hf.app hh).keep hS hk⟩
theorem OwnG.row {e : TypeId} {size : Nat} {w : World} {base n : Nat} {v : Value} {g : G} (h : OwnG e size w base v n g) (hs : 0 < size) : ∃ A c, v = .slice A n c ∧ n ≤ c ∧ c ≤ maxLen ∧ GRow w (fun b => base ≤ b ∧ b < w.heap.size) A n g := by
  obtain ⟨xs, hown, hf⟩ := h
  have hlo := fun g hg => (hown.lt g hg).1
  obtain ⟨A, c, rfl, h1, h2, h3⟩ := CellsAt.of_own hown
  refine ⟨A, c, rfl, h1, h2, fun hl => ?_⟩
  have hx : 0 < xs.length := by rw [hown.1]; exact Nat.mul_pos hl hs
  obtain ⟨b, o, rfl, hg, hc⟩ := h3 hx
  exact ⟨b, o, xs, rfl, ⟨hlo b rfl, hg⟩, hf.mono fun _ h => ⟨h.1, h.2.1⟩, hc⟩
theorem OwnG.low {e : TypeId} {size : Nat} {w : World} {base n : Nat} {v : Value} {g : G} (h : OwnG e size w base v n g) {b : Nat} (hb : v.ownBlock = some b) : base ≤ b ∧ b < w.heap.size := by
  obtain ⟨xs, hown, _⟩ := h
  exact hown.lt b hb

/-- Patterns and values as cells. -/
def encF : F → G
  | .nil => .nil
  | .cons k n t a r => .lit (.int .i64 k) (.lit (.int .i64 n) (.lit (.string t) (.row a.len (encF a) (encF r))))
theorem encF_app : ∀ f g : F, encF (f.app g) = (encF f).app (encF g)
  | .nil, _ => rfl
  | .cons _ _ _ _ r, g => by simp only [F.app, encF, G.app, encF_app r g]
theorem encF_snoc (f : F) (k n : Int) (t : ByteArray) (a : F) : encF (f.snoc k n t a) = (encF f).app (encF (.cons k n t a .nil)) := encF_app f _
theorem fat_of {w : World} {S : Nat → Prop} {b : Nat} : ∀ {f : F} {xs : List Value} {o : Nat}, GCells w S (encF f) xs → (∀ j u, xs[j]? = some u → w.cell? ⟨b, o + j, none⟩ = some u) → FRow.FAt w S f ⟨b, o, none⟩
  | .nil, _, _, _, _ => trivial
  | .cons k n t a r, _, o, ⟨_, e0, _, _, e1, _, _, e2, _, A, c, ys, e3, h1, h2, h3, h4⟩, hc => by
    subst e3 e2 e1 e0
    refine ⟨hc 0 _ rfl, hc 1 _ rfl, hc 2 _ rfl, ⟨A, c, hc 3 _ rfl, h1, h2, fun hn => ?_⟩, ?_⟩
    · obtain ⟨b', o', zs, e', hb, hz, hcz⟩ := h3 hn
      exact ⟨⟨b', o', none⟩, e', hb, fat_of hz hcz⟩
    · have := fat_of (o := o + 4) h4 fun j u hu => by
        have := hc (j + 4) u (by simpa using hu)
        rw [Nat.add_assoc, Nat.add_comm 4 j]
        exact this
      simpa [Addr.add] using this
theorem row_of {w : World} {S : Nat → Prop} {A : Option Addr} {f : F} (h : GRow w S A f.len (encF f)) : FRow.RowAt w S A f := fun hl => by
  obtain ⟨b, o, zs, e, hb, hz, hc⟩ := h hl
  exact ⟨_, e, hb, fat_of hz hc⟩
end Go.GMem
