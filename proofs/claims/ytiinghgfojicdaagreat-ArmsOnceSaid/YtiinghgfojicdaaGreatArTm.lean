/- The tests of patterns as data, and in memory; what appends them; slices.Clone. No conditions. -/
import Derived.Test.YtiinghgfojicdaaGreatArBinds
set_option linter.unusedVariables false
set_option linter.unusedSimpArgs false
namespace Go.Proofs.YtiinghgfojicdaaGreat
open Go.RowKit Go.RowG Go.FRow Go.GMem
set_option linter.unusedVariables false
set_option maxRecDepth 100000
attribute [local go_sem ↓] Go.wp_at_zero Go.wp_at_succ

structure T where
  path : List Nat
  k : Int
  n : Int
  t : ByteArray
/-- The tests of the patterns of a row, from the i-th on. -/
def testsF : F → List Nat → Nat → List T
  | .nil, _, _ => []
  | .cons k n t a r, p, i => (if k = 3 ∨ k = 4 then [⟨p ++ [i], k, n, ⟨#[]⟩⟩] else if k = 5 then [⟨p ++ [i], k, 0, t⟩] else if k = 6 then ⟨p ++ [i], k, a.len, t⟩ :: testsF a (p ++ [i]) 0 else []) ++ testsF r p (i + 1)
/-- The tests of a pattern at a path. -/
def tests1 (k n : Int) (t : ByteArray) (a : F) (p : List Nat) : List T :=
  if k = 3 ∨ k = 4 then [⟨p, k, n, ⟨#[]⟩⟩] else if k = 5 then [⟨p, k, 0, t⟩] else if k = 6 then ⟨p, k, a.len, t⟩ :: testsF a p 0 else []
theorem testsF_cons (k n : Int) (t : ByteArray) (a r : F) (p : List Nat) (i : Nat) : testsF (.cons k n t a r) p i = tests1 k n t a (p ++ [i]) ++ testsF r p (i + 1) := rfl
theorem testsF_len : ∀ (f : F) (p : List Nat) (i : Nat), (testsF f p i).length = asksF f ∨ (testsF f p i).length ≤ f.nodes
  | .nil, _, _ => Or.inl rfl
  | .cons k n t a r, p, i => by
    right
    have h1 := testsF_len a (p ++ [i]) 0
    have h2 := testsF_len r p (i + 1)
    have h3 := asksF_le a
    have h4 := asksF_le r
    rw [testsF_cons, List.length_append]
    simp only [F.nodes]
    have : (tests1 k n t a (p ++ [i])).length ≤ a.nodes + 1 := by
      unfold tests1
      split
      · simp
      · split
        · simp
        · split
          · simp only [List.length_cons]; omega
          · simp
    omega
theorem testsF_nodes (f : F) (p : List Nat) (i : Nat) : (testsF f p i).length ≤ f.nodes := by
  have h1 := testsF_len f p i
  have h2 := asksF_le f
  omega
theorem tests1_nodes (k n : Int) (t : ByteArray) (a : F) (p : List Nat) : (tests1 k n t a p).length ≤ a.nodes + 1 := by
  unfold tests1
  split
  · simp
  · split
    · simp
    · split
      · have := testsF_nodes a p 0
        simp only [List.length_cons]; omega
      · simp

def encI : List Nat → G
  | [] => .nil
  | x :: l => .lit (.int .i64 (x : Int)) (encI l)
theorem encI_app : ∀ l r : List Nat, encI (l ++ r) = (encI l).app (encI r)
  | [], _ => rfl
  | x :: l, r => by simp only [List.cons_append, encI, G.app, encI_app l r]
def encT (x : T) (r : G) : G := .row x.path.length (encI x.path) (.lit (.int .i64 x.k) (.lit (.int .i64 x.n) (.lit (.string x.t) (.lit (.slice none 0 0) r))))
def encTs : List T → G
  | [] => .nil
  | x :: l => encT x (encTs l)
theorem encTs_app : ∀ l r : List T, encTs (l ++ r) = (encTs l).app (encTs r)
  | [], _ => rfl
  | x :: l, r => by simp only [List.cons_append, encTs, encT, G.app, encTs_app l r]
theorem encI_len : ∀ l : List Nat, (encI l).len = l.length
  | [] => rfl
  | x :: l => by simp only [encI, G.len, encI_len l, List.length_cons]
theorem encTs_len : ∀ l : List T, (encTs l).len = l.length * 5
  | [] => rfl
  | x :: l => by simp only [encTs, encT, G.len, encTs_len l, List.length_cons]; omega

/-- A row of the call's own; what it leads to may be older. -/
def OwnH (e : TypeId) (size : Nat) (w : World) (base : Nat) (v : Value) (n : Nat) (g : G) : Prop := ∃ xs, w.ownsRow base e size v n xs ∧ GCells w (fun b => b < w.heap.size ∧ some b ≠ v.ownBlock) g xs
theorem OwnH.nil (e : TypeId) (size : Nat) (w : World) (base : Nat) : OwnH e size w base (.slice none 0 0) 0 .nil := ⟨[], World.ownsRow_nil _ _ _ _, rfl⟩
theorem OwnH.kept {e : TypeId} {size : Nat} {w w' : World} {base n : Nat} {v : Value} {g : G} (h : OwnH e size w base v n g) (hb : Below w.heap.size w w') : OwnH e size w' base v n g := by
  obtain ⟨xs, hown, hf⟩ := h
  exact ⟨xs, hown.kept ⟨hb.os, hb.tape, hb.output, hb.size, fun k hk _ => hb.block k hk⟩ (Classical.em _), hf.keep (fun b h => ⟨Nat.lt_of_lt_of_le h.1 hb.size, h.2⟩) fun p hp => hb.cell hp.1⟩
theorem OwnH.row {e : TypeId} {size : Nat} {w : World} {base n : Nat} {v : Value} {g : G} (h : OwnH e size w base v n g) (hs : 0 < size) : ∃ A c, v = .slice A n c ∧ n ≤ c ∧ c ≤ maxLen ∧ GRow w (lt w) A n g := by
  obtain ⟨xs, hown, hf⟩ := h
  obtain ⟨A, c, rfl, h1, h2, h3⟩ := CellsAt.of_own hown
  refine ⟨A, c, rfl, h1, h2, fun hl => ?_⟩
  have hx : 0 < xs.length := by rw [hown.1]; exact Nat.mul_pos hl hs
  obtain ⟨b, o, rfl, hg, hc⟩ := h3 hx
  exact ⟨b, o, xs, rfl, hg, hf.mono fun _ h => h.1, hc⟩
theorem OwnH.low {e : TypeId} {size : Nat} {w : World} {base n : Nat} {v : Value} {g : G} (h : OwnH e size w base v n g) {b : Nat} (hb : v.ownBlock = some b) : base ≤ b ∧ b < w.heap.size := by
  obtain ⟨xs, hown, _⟩ := h
  exact hown.lt b hb
/-- More of it, appended. -/
theorem OwnH.more {e : TypeId} {size : Nat} {w w' : World} {base m : Nat} {v v' : Value} {g h : G} {xs ys : List Value}
    (hf : GCells w (fun b => b < w.heap.size ∧ some b ≠ v.ownBlock) g xs) (hh : GCells w (fun b => b < w.heap.size ∧ some b ≠ v.ownBlock) h ys)
    (hown' : w'.ownsRow base e size v' m (xs ++ ys)) (hg : w.grownBy w' v.ownBlock) (hv : v'.ownBlock = v.ownBlock ∨ v'.ownBlock = some w.heap.size) : OwnH e size w' base v' m (g.app h) := by
  have hsz := hg.size
  have hS : ∀ b, (b < w.heap.size ∧ some b ≠ v.ownBlock) → (b < w'.heap.size ∧ some b ≠ v'.ownBlock) := fun b ⟨hb, hne⟩ => ⟨by omega, by
    rcases hv with h | h
    · rw [h]; exact hne
    · rw [h]; intro e; injection e with e; omega⟩
  exact ⟨_, hown', (hf.app hh).keep hS fun p ⟨hb, hne⟩ => World.cell?_of_block (hg.block p.block hb hne)⟩

theorem add_at (b o i : Nat) : (⟨b, o, none⟩ : Addr).add i = ⟨b, o + i, none⟩ := by
  unfold Addr.add
  split
  · next h => subst h; rfl
  · rfl
theorem encI_cells {w w' : World} {S S' : Nat → Prop} : ∀ {L : List Nat} {xs : List Value}, GCells w S (encI L) xs → GCells w' S' (encI L) xs
  | [], _, h => h
  | x :: l, _, ⟨ys, e, h1, h2⟩ => ⟨ys, e, h1, encI_cells h2⟩
theorem OwnH.ints {w : World} {base n : Nat} {v : Value} {L : List Nat} (h : OwnH 3 1 w base v n (encI L)) : OwnG 3 1 w base v n (encI L) := by
  obtain ⟨xs, h1, h2⟩ := h
  exact ⟨xs, h1, encI_cells h2⟩
theorem _root_.Go.GMem.OwnG.more {e : TypeId} {size : Nat} {w w' : World} {base m : Nat} {v v' : Value} {g h : G} {xs ys : List Value}
    (hf : GCells w (fun b => base ≤ b ∧ b < w.heap.size ∧ some b ≠ v.ownBlock) g xs) (hh : GCells w (fun b => base ≤ b ∧ b < w.heap.size ∧ some b ≠ v.ownBlock) h ys)
    (hown' : w'.ownsRow base e size v' m (xs ++ ys)) (hg : w.grownBy w' v.ownBlock) (hv : v'.ownBlock = v.ownBlock ∨ v'.ownBlock = some w.heap.size) : OwnG e size w' base v' m (g.app h) := by
  have hsz := hg.size
  have hS : ∀ b, (base ≤ b ∧ b < w.heap.size ∧ some b ≠ v.ownBlock) → (base ≤ b ∧ b < w'.heap.size ∧ some b ≠ v'.ownBlock) := fun b ⟨h0, hb, hne⟩ => ⟨h0, by omega, by
    rcases hv with h | h
    · rw [h]; exact hne
    · rw [h]; intro e; injection e with e; omega⟩
  exact ⟨_, hown', (hf.app hh).keep hS fun p ⟨_, hb, hne⟩ => World.cell?_of_block (hg.block p.block hb hne)⟩
theorem step_append_g {P : Program} {t e : TypeId} {size bytes : Nat} (T : RowTy P t e size bytes) (hby : bytes ≤ 1000) {ops : Array Oper} {o : Oper} {a : Act} {K : Act → World → Prop} {Q : Exit → Act → World → Prop} {E : Prop} (w : World) (hgd : o.guard = none) (s x : Operand)
    (ho : o.op = .call { callee := .builtin .append, args := #[s, x], argTypes := #[t, t] })
    (base : Nat) (v : Value) (n : Nat) (X L : List Value) (hs : a.eval s = v) (hown : w.ownsRow base e size v n X) (A : Option Addr) (m c : Nat) (hx : a.eval x = .slice A m c) (hm : L.length = m * size)
    (hr : 0 < m → ∃ ad, A = some ad ∧ ∀ j u, L[j]? = some u → w.cell? (ad.add j) = some u)
    (h1 : ∀ u ∈ L, u.oneCell' = true) (h63 : n + m ≤ 100000000) (hbase : base ≤ w.heap.size)
    (h : ∀ v' w', w'.ownsRow base e size v' (n + m) (X ++ L) → w.grownBy w' v.ownBlock → (v'.ownBlock = v.ownBlock ∨ v'.ownBlock = some w.heap.size) → K (a.put o.dst v') w') :
    if Region.wanted o (yielded ops a.tmps) = true then Oper.wp P o a w K Q else E := by
  have hw : Region.wanted o (yielded ops a.tmps) = true := by simp [Region.wanted, hgd]
  rw [if_pos hw]
  obtain ⟨v', w', hrun, h2, h3, h4⟩ := run_append_g T hby w o.type base v n X L hown A m c hm hr h1 h63 hbase
  unfold Oper.wp execOp
  simp only [ho, resolve, invoke, builtin, Sem.run_bind, Sem.run_pure, Result.andThen_ok, List.map_toArray, List.map_cons, List.map_nil, hs, hx, hrun]
  exact h v' w' h2 h3 h4
/-- The cells that are appended. -/
theorem cells_of_row {w : World} {S : Nat → Prop} {A : Option Addr} {m : Nat} {g : G} (h : GRow w S A m g) (hn : m = 0 → g = .nil) : ∃ L, GCells w S g L ∧ L.length = g.len ∧ (∀ u ∈ L, u.oneCell' = true) ∧ (0 < m → ∃ ad, A = some ad ∧ ∀ j u, L[j]? = some u → w.cell? (ad.add j) = some u) := by
  by_cases h0 : m = 0
  · rw [hn h0]
    exact ⟨[], rfl, rfl, by simp, fun h => absurd h (by omega)⟩
  · obtain ⟨b, o, zs, e, _, hz, hc⟩ := h (by omega)
    refine ⟨zs, hz, hz.length, hz.one, fun _ => ⟨_, e, fun j u hu => ?_⟩⟩
    have := hc j u hu
    unfold Addr.add
    split
    · next hj => subst hj; simpa using this
    · exact this

theorem intTy : RowTy Tryz.prog 22 3 1 8 := RowTy.of Tryz.underlying22 (by kernel_rfl) (by decide)
theorem tstTy : RowTy Tryz.prog 61 56 5 80 := RowTy.of Tryz.underlying61 (by kernel_rfl) (by decide)
theorem owns_empty {w : World} {base : Nat} {e : TypeId} {size : Nat} (hs : base ≤ w.heap.size) : (w.alloc (.cells #[] e)).ownsRow base e size (.slice (some ⟨w.heap.size, 0, none⟩) 0 0) 0 [] :=
  ⟨by simp, Or.inr ⟨w.heap.size, 0, #[], rfl, hs, heap_alloc_new w _, Nat.le_refl _, by simp, by simp, by simp⟩⟩

theorem nil_eqI (w : World) : (binOp BinOp.eql 22 (.slice none 0 0) (.slice none 0 0)).run Tryz.prog w = .ok (.bool true) w := by kernel_rfl
theorem nil_neI (ad : Addr) (n c : Nat) (w : World) : (binOp BinOp.eql 22 (.slice (some ad) n c) (.slice none 0 0)).run Tryz.prog w = .ok (.bool false) w := by kernel_rfl
theorem nil_eqT (w : World) : (binOp BinOp.eql 61 (.slice none 0 0) (.slice none 0 0)).run Tryz.prog w = .ok (.bool true) w := by kernel_rfl
theorem nil_neT (ad : Addr) (n c : Nat) (w : World) : (binOp BinOp.eql 61 (.slice (some ad) n c) (.slice none 0 0)).run Tryz.prog w = .ok (.bool false) w := by kernel_rfl
/-- What Clone hands back. -/
def CloneEnds (e : TypeId) (size n : Nat) (g : G) (w : World) (en : Ending) (w' : World) : Prop := ∃ v, en = .returned v ∧ OwnH e size w' w.heap.size v n g ∧ Below w.heap.size w w'
theorem cloneI_says (L : List Nat) (A : Option Addr) (c : Nat) (w : World) (h : GRow w (lt w) A L.length (encI L)) (h0 : A = none → L.length = 0 ∧ c = 0) (hl : L.length ≤ 1000) : Calls Tryz.prog 77 #[.slice A L.length c] w (CloneEnds 3 1 L.length (encI L) w) := by
  rcases A with _ | ad
  · obtain ⟨e0, rfl⟩ := h0 rfl
    have eL := List.eq_nil_of_length_eq_zero e0
    subst eL
    have hnil := nil_eqI
    go_enter Tryz.func77, Tryz.ntmps77
    go_wp2
    go_ret
    exact ⟨_, rfl, OwnH.nil _ _ _ _, Below.refl _ _⟩
  · obtain ⟨X, hX, hXl, hX1, hXc⟩ := cells_of_row h (fun e => by rw [List.eq_nil_of_length_eq_zero e]; rfl)
    rw [encI_len] at hXl
    obtain ⟨n, hn⟩ : ∃ n, n = L.length := ⟨_, rfl⟩
    rw [← hn] at hXc hXl hl ⊢
    clear hn h h0
    have hnil := nil_neI ad n c
    go_enter Tryz.func77, Tryz.ntmps77
    go_wp2_with (first
      | (at_builtin
         refine wpList_append_g intTy (by decide) (w.alloc (.cells #[] 3)) rfl (.tmp 5) (.tmp 6) rfl w.heap.size _ 0 [] X rfl (owns_empty (Nat.le_refl _)) (some ad) n c rfl (by omega) (fun hn => ?_) hX1 (by omega) (by simp) ?_
         focus
           obtain ⟨ad', e, hc⟩ := hXc hn
           obtain rfl := Option.some.inj e
           exact ⟨_, rfl, fun j u hu => by
             have := hc j u hu
             exact (World.cell?_alloc_lt w _ _ (World.block_lt_of_cell? w _ this)).trans this⟩
         intro v2 w2 hown2 hg2 hv2))
    go_ret
    have hb : Below w.heap.size w w2 := ((Below.refl _ _).alloc (Nat.le_refl _) _).grown hg2 (by simp) (fun b hb => Nat.le_of_eq (Option.some.inj (show some w.heap.size = some b from hb)))
    refine ⟨v2, rfl, ⟨X, by simpa using hown2, hX.keep (fun b hb' => ⟨Nat.lt_of_lt_of_le hb' hb.size, fun e => ?_⟩) fun p hp => hb.cell hp⟩, hb⟩
    have h1 := (hown2.lt b e.symm).1
    have h2 : b < w.heap.size := hb'
    omega
theorem cloneT_says (L : List T) (A : Option Addr) (c : Nat) (w : World) (S : Nat → Prop) (hS : ∀ b, S b → b < w.heap.size) (h : GRow w S A L.length (encTs L)) (h0 : A = none → L.length = 0 ∧ c = 0) (hl : L.length ≤ 1000) : Calls Tryz.prog 82 #[.slice A L.length c] w (fun e w' => ∃ v xs, e = .returned v ∧ w'.ownsRow w.heap.size 56 5 v L.length xs ∧ GCells w' S (encTs L) xs ∧ Below w.heap.size w w') := by
  rcases A with _ | ad
  · obtain ⟨e0, rfl⟩ := h0 rfl
    have eL := List.eq_nil_of_length_eq_zero e0
    subst eL
    have hnil := nil_eqT
    go_enter Tryz.func82, Tryz.ntmps82
    go_wp2
    go_ret
    first
      | exact ⟨_, [], rfl, World.ownsRow_nil _ _ _ _, rfl, Below.refl _ _⟩
      | exact ⟨_, rfl, [], World.ownsRow_nil _ _ _ _, rfl, Below.refl _ _⟩
  · obtain ⟨X, hX, hXl, hX1, hXc⟩ := cells_of_row h (fun e => by rw [List.eq_nil_of_length_eq_zero e]; rfl)
    rw [encTs_len] at hXl
    obtain ⟨n, hn⟩ : ∃ n, n = L.length := ⟨_, rfl⟩
    rw [← hn] at hXc hXl hl ⊢
    clear hn h h0
    have hnil := nil_neT ad n c
    go_enter Tryz.func82, Tryz.ntmps82
    go_wp2_with (first
      | (at_builtin
         refine wpList_append_g tstTy (by decide) (w.alloc (.cells #[] 56)) rfl (.tmp 5) (.tmp 6) rfl w.heap.size _ 0 [] X rfl (owns_empty (Nat.le_refl _)) (some ad) n c rfl (by omega) (fun hn => ?_) hX1 (by omega) (by simp) ?_
         focus
           obtain ⟨ad', e, hc⟩ := hXc hn
           obtain rfl := Option.some.inj e
           exact ⟨_, rfl, fun j u hu => by
             have := hc j u hu
             exact (World.cell?_alloc_lt w _ _ (World.block_lt_of_cell? w _ this)).trans this⟩
         intro v2 w2 hown2 hg2 hv2))
    go_ret
    have hb : Below w.heap.size w w2 := ((Below.refl _ _).alloc (Nat.le_refl _) _).grown hg2 (by simp) (fun b hb => Nat.le_of_eq (Option.some.inj (show some w.heap.size = some b from hb)))
    first
      | exact ⟨v2, X, rfl, by simpa using hown2, hX.keep (fun _ h => h) fun p hp => hb.cell (hS _ hp), hb⟩
      | exact ⟨v2, rfl, X, by simpa using hown2, hX.keep (fun _ h => h) fun p hp => hb.cell (hS _ hp), hb⟩
end Go.Proofs.YtiinghgfojicdaaGreat
