/- A part of the proof of FoldTwice: expressions as data, and in memory. No conditions. -/
import Derived.Test.YtiinghgfojicdaaGreatFoB
import Derived.Deep.Cut
import Derived.Deep.RegionHeld3
import Derived.Deep.RegionLaw
set_option linter.unusedVariables false
set_option linter.unusedSimpArgs false
namespace Go.Proofs.YtiinghgfojicdaaGreat
open Go.RowKit Go.RowG Go.FRow Go.GMem
set_option linter.unusedVariables false
set_option maxRecDepth 100000
attribute [local go_sem ↓] Go.wp_at_zero Go.wp_at_succ
structure T where
  path : List Nat
  k : Int
  n : Int
  t : ByteArray
def encI : List Nat → G
  | [] => .nil
  | x :: l => .lit (.int .i64 (x : Int)) (encI l)
def encT (x : T) (r : G) : G := .row x.path.length (encI x.path) (.lit (.int .i64 x.k) (.lit (.int .i64 x.n) (.lit (.string x.t) (.lit (.slice none 0 0) r))))
def encTs : List T → G
  | [] => .nil
  | x :: l => encT x (encTs l)
/-- A row of the call's own; what it leads to may be older. -/
def OwnH (e : TypeId) (size : Nat) (w : World) (base : Nat) (v : Value) (n : Nat) (g : G) : Prop := ∃ xs, w.ownsRow base e size v n xs ∧ GCells w (fun b => b < w.heap.size ∧ some b ≠ v.ownBlock) g xs
theorem OwnH.nil (e : TypeId) (size : Nat) (w : World) (base : Nat) : OwnH e size w base (.slice none 0 0) 0 .nil := ⟨[], World.ownsRow_nil _ _ _ _, rfl⟩
theorem OwnH.kept {e : TypeId} {size : Nat} {w w' : World} {base n : Nat} {v : Value} {g : G} (h : OwnH e size w base v n g) (hb : Below w.heap.size w w') : OwnH e size w' base v n g := by
  obtain ⟨xs, hown, hf⟩ := h
  exact ⟨xs, hown.kept ⟨hb.os, hb.tape, hb.output, hb.size, fun k hk _ => hb.block k hk⟩ (Classical.em _), hf.keep (fun b h => ⟨Nat.lt_of_lt_of_le h.1 hb.size, h.2⟩) fun p hp => hb.cell hp.1⟩
theorem OwnH.row {e : TypeId} {size : Nat} {w : World} {base n : Nat} {v : Value} {g : G} (h : OwnH e size w base v n g) (hs : 0 < size) : ∃ A c, v = .slice A n c ∧ n ≤ c ∧ c ≤ maxLen ∧ GRow w (lt w) A n g := by
  obtain ⟨xs, hown, hf⟩ := h
  obtain ⟨A, c, rfl, h1, h2, h3⟩ := CellsAt.of_own hown
  refine ⟨A, c, rfl, h1, h2, fun hl => ?_⟩
  have hx : 0 < xs.length := by rw [hown.1]; exact Nat.mul_pos hl hs
  obtain ⟨b, o, rfl, hg, hc⟩ := h3 hx
  exact ⟨b, o, xs, rfl, hg, hf.mono fun _ h => h.1, hc⟩
theorem OwnH.low {e : TypeId} {size : Nat} {w : World} {base n : Nat} {v : Value} {g : G} (h : OwnH e size w base v n g) {b : Nat} (hb : v.ownBlock = some b) : base ≤ b ∧ b < w.heap.size := by
  obtain ⟨xs, hown, _⟩ := h
  exact hown.lt b hb
/-- More of it, appended. -/
theorem OwnH.more {e : TypeId} {size : Nat} {w w' : World} {base m : Nat} {v v' : Value} {g h : G} {xs ys : List Value}
    (hf : GCells w (fun b => b < w.heap.size ∧ some b ≠ v.ownBlock) g xs) (hh : GCells w (fun b => b < w.heap.size ∧ some b ≠ v.ownBlock) h ys)
    (hown' : w'.ownsRow base e size v' m (xs ++ ys)) (hg : w.grownBy w' v.ownBlock) (hv : v'.ownBlock = v.ownBlock ∨ v'.ownBlock = some w.heap.size) : OwnH e size w' base v' m (g.app h) := by
  have hsz := hg.size
  have hS : ∀ b, (b < w.heap.size ∧ some b ≠ v.ownBlock) → (b < w'.heap.size ∧ some b ≠ v'.ownBlock) := fun b ⟨hb, hne⟩ => ⟨by omega, by
    rcases hv with h | h
    · rw [h]; exact hne
    · rw [h]; intro e; injection e with e; omega⟩
  exact ⟨_, hown', (hf.app hh).keep hS fun p ⟨hb, hne⟩ => World.cell?_of_block (hg.block p.block hb hne)⟩
theorem add_at (b o i : Nat) : (⟨b, o, none⟩ : Addr).add i = ⟨b, o + i, none⟩ := by
  unfold Addr.add
  split
  · next h => subst h; rfl
  · rfl
theorem _root_.Go.GMem.OwnG.more {e : TypeId} {size : Nat} {w w' : World} {base m : Nat} {v v' : Value} {g h : G} {xs ys : List Value}
    (hf : GCells w (fun b => base ≤ b ∧ b < w.heap.size ∧ some b ≠ v.ownBlock) g xs) (hh : GCells w (fun b => base ≤ b ∧ b < w.heap.size ∧ some b ≠ v.ownBlock) h ys)
    (hown' : w'.ownsRow base e size v' m (xs ++ ys)) (hg : w.grownBy w' v.ownBlock) (hv : v'.ownBlock = v.ownBlock ∨ v'.ownBlock = some w.heap.size) : OwnG e size w' base v' m (g.app h) := by
  have hsz := hg.size
  have hS : ∀ b, (base ≤ b ∧ b < w.heap.size ∧ some b ≠ v.ownBlock) → (base ≤ b ∧ b < w'.heap.size ∧ some b ≠ v'.ownBlock) := fun b ⟨h0, hb, hne⟩ => ⟨h0, by omega, by
    rcases hv with h | h
    · rw [h]; exact hne
    · rw [h]; intro e; injection e with e; omega⟩
  exact ⟨_, hown', (hf.app hh).keep hS fun p ⟨_, hb, hne⟩ => World.cell?_of_block (hg.block p.block hb hne)⟩
theorem step_append_g {P : Program} {t e : TypeId} {size bytes : Nat} (T : RowTy P t e size bytes) (hby : bytes ≤ 1000) {ops : Array Oper} {o : Oper} {a : Act} {K : Act → World → Prop} {Q : Exit → Act → World → Prop} {E : Prop} (w : World) (hgd : o.guard = none) (s x : Operand)
    (ho : o.op = .call { callee := .builtin .append, args := #[s, x], argTypes := #[t, t] })
    (base : Nat) (v : Value) (n : Nat) (X L : List Value) (hs : a.eval s = v) (hown : w.ownsRow base e size v n X) (A : Option Addr) (m c : Nat) (hx : a.eval x = .slice A m c) (hm : L.length = m * size)
    (hr : 0 < m → ∃ ad, A = some ad ∧ ∀ j u, L[j]? = some u → w.cell? (ad.add j) = some u)
    (h1 : ∀ u ∈ L, u.oneCell' = true) (h63 : n + m ≤ 100000000) (hbase : base ≤ w.heap.size)
    (h : ∀ v' w', w'.ownsRow base e size v' (n + m) (X ++ L) → w.grownBy w' v.ownBlock → (v'.ownBlock = v.ownBlock ∨ v'.ownBlock = some w.heap.size) → K (a.put o.dst v') w') :
    if Region.wanted o (yielded ops a.tmps) = true then Oper.wp P o a w K Q else E := by
  have hw : Region.wanted o (yielded ops a.tmps) = true := by simp [Region.wanted, hgd]
  rw [if_pos hw]
  obtain ⟨v', w', hrun, h2, h3, h4⟩ := run_append_g T hby w o.type base v n X L hown A m c hm hr h1 h63 hbase
  unfold Oper.wp execOp
  simp only [ho, resolve, invoke, builtin, Sem.run_bind, Sem.run_pure, Result.andThen_ok, List.map_toArray, List.map_cons, List.map_nil, hs, hx, hrun]
  exact h v' w' h2 h3 h4
/-- The cells that are appended. -/
theorem cells_of_row {w : World} {S : Nat → Prop} {A : Option Addr} {m : Nat} {g : G} (h : GRow w S A m g) (hn : m = 0 → g = .nil) : ∃ L, GCells w S g L ∧ L.length = g.len ∧ (∀ u ∈ L, u.oneCell' = true) ∧ (0 < m → ∃ ad, A = some ad ∧ ∀ j u, L[j]? = some u → w.cell? (ad.add j) = some u) := by
  by_cases h0 : m = 0
  · rw [hn h0]
    exact ⟨[], rfl, rfl, by simp, fun h => absurd h (by omega)⟩
  · obtain ⟨b, o, zs, e, _, hz, hc⟩ := h (by omega)
    refine ⟨zs, hz, hz.length, hz.one, fun _ => ⟨_, e, fun j u hu => ?_⟩⟩
    have := hc j u hu
    unfold Addr.add
    split
    · next hj => subst hj; simpa using this
    · exact this
theorem owns_empty {w : World} {base : Nat} {e : TypeId} {size : Nat} (hs : base ≤ w.heap.size) : (w.alloc (.cells #[] e)).ownsRow base e size (.slice (some ⟨w.heap.size, 0, none⟩) 0 0) 0 [] :=
  ⟨by simp, Or.inr ⟨w.heap.size, 0, #[], rfl, hs, heap_alloc_new w _, Nat.le_refl _, by simp, by simp, by simp⟩⟩
/-- What Clone hands back. -/
def CloneEnds (e : TypeId) (size n : Nat) (g : G) (w : World) (en : Ending) (w' : World) : Prop := ∃ v, en = .returned v ∧ OwnH e size w' w.heap.size v n g ∧ Below w.heap.size w w'
end Go.Proofs.YtiinghgfojicdaaGreat
namespace Go.Proofs.YtiinghgfojicdaaGreat
open Go.RowKit Go.RowG Go.FRow Go.GMem
set_option linter.unusedVariables false
set_option maxRecDepth 100000
attribute [local go_sem ↓] Go.wp_at_zero Go.wp_at_succ
def BoolEnds (b : Bool) (w : World) (e : Ending) (w' : World) : Prop := e = .returned (.bool b) ∧ Below w.heap.size w w'
end Go.Proofs.YtiinghgfojicdaaGreat
namespace Go.Proofs.YtiinghgfojicdaaGreat
open Go.RowKit Go.RowG Go.FRow Go.GMem
set_option linter.unusedVariables false
/-- A pattern. -/
structure Pt where
  k : Int
  n : Int
  t : ByteArray
  a : F
/-- What an expression is, but for its parts. m: how many types (each is int). -/
structure Hd where
  k : Int
  n : Int
  t : ByteArray
  ns : List ByteArray
  m : Nat
/-- A row of expressions, or of arms (then with the patterns). -/
inductive X where
  | nil : X
  | cons (p : Pt) (h : Hd) (args arms r : X) : X
structure Ex where
  h : Hd
  args : X
  arms : X
def X.len : X → Nat
  | .nil => 0
  | .cons _ _ _ _ r => r.len + 1
def X.app : X → X → X
  | .nil, y => y
  | .cons p h a b r, y => .cons p h a b (r.app y)
def X.snoc (x : X) (p : Pt) (e : Ex) : X := x.app (.cons p e.h e.args e.arms .nil)
theorem X.app_nil : ∀ x : X, x.app .nil = x
  | .nil => rfl
  | .cons _ _ _ _ r => by simp only [X.app, X.app_nil r]
theorem X.app_assoc : ∀ x y z : X, (x.app y).app z = x.app (y.app z)
  | .nil, _, _ => rfl
  | .cons _ _ _ _ r, y, z => by simp only [X.app, X.app_assoc r y z]
theorem X.app_len : ∀ x y : X, (x.app y).len = x.len + y.len
  | .nil, y => by simp [X.app, X.len]
  | .cons _ _ _ _ r, y => by simp only [X.app, X.len, X.app_len r y]; omega
theorem X.snoc_len (x : X) (p : Pt) (e : Ex) : (x.snoc p e).len = x.len + 1 := by simp [X.snoc, X.app_len, X.len]
/-- All that is in it: expressions and patterns. -/
def sizeX : Bool → X → Nat
  | _, .nil => 0
  | b, .cons p _ args arms r => (1 + sizeX false args + sizeX true arms) + (if b = true then 1 + p.a.nodes else 0) + sizeX b r
def Ex.size (e : Ex) : Nat := 1 + sizeX false e.args + sizeX true e.arms
theorem sizeX_app (b : Bool) : ∀ x y : X, sizeX b (x.app y) = sizeX b x + sizeX b y
  | .nil, y => by simp [X.app, sizeX]
  | .cons _ _ _ _ r, y => by simp only [X.app, sizeX, sizeX_app b r y]; omega
theorem sizeX_snoc (b : Bool) (x : X) (p : Pt) (e : Ex) : sizeX b (x.snoc p e) = sizeX b x + e.size + (if b = true then 1 + p.a.nodes else 0) := by
  rw [X.snoc, sizeX_app]
  simp only [sizeX, Ex.size]
  omega
theorem X.len_size (b : Bool) : ∀ x : X, x.len ≤ sizeX b x
  | .nil => Nat.le_refl _
  | .cons _ _ _ _ r => by
    have := X.len_size b r
    simp only [X.len, sizeX]
    omega
/-- Q of each. -/
def EachX (Q : Ex → Prop) : X → Prop
  | .nil => True
  | .cons _ h args arms r => Q ⟨h, args, arms⟩ ∧ EachX Q r
theorem eachX_of {Q : Ex → Prop} (h : ∀ e : Ex, EachX Q e.args → EachX Q e.arms → Q e) : ∀ x, EachX Q x
  | .nil => trivial
  | .cons p hd args arms r => ⟨h ⟨hd, args, arms⟩ (eachX_of h args) (eachX_of h arms), eachX_of h r⟩
theorem each_ex {Q : Ex → Prop} (h : ∀ e : Ex, EachX Q e.args → EachX Q e.arms → Q e) (e : Ex) : Q e := h e (eachX_of h e.args) (eachX_of h e.arms)
def encS : List ByteArray → G
  | [] => .nil
  | s :: l => .lit (.string s) (encS l)
def encY : Nat → G
  | 0 => .nil
  | m + 1 => .lit (.int .i64 1) (.lit (.string ⟨#[]⟩) (.lit (.slice none 0 0) (encY m)))
def cellsE (h : Hd) (na nb : Nat) (ga gb r : G) : G :=
  .lit (.int .i64 h.k) (.lit (.int .i64 h.n) (.lit (.string h.t) (.row h.ns.length (encS h.ns) (.row h.m (encY h.m) (.row na ga (.row nb gb (.lit (.int .i64 0) r)))))))
def cellsP (p : Pt) (r : G) : G := .lit (.int .i64 p.k) (.lit (.int .i64 p.n) (.lit (.string p.t) (.row p.a.len (encF p.a) r)))
def withP : Bool → Pt → G → G
  | true, p, r => cellsP p r
  | false, _, r => r
def encX : Bool → X → G
  | _, .nil => .nil
  | b, .cons p h args arms r => withP b p (cellsE h args.len arms.len (encX false args) (encX true arms) (encX b r))
def encE (e : Ex) : G := cellsE e.h e.args.len e.arms.len (encX false e.args) (encX true e.arms) .nil
theorem cellsE_app (h : Hd) (na nb : Nat) (ga gb r g : G) : (cellsE h na nb ga gb r).app g = cellsE h na nb ga gb (r.app g) := rfl
theorem cellsP_app (p : Pt) (r g : G) : (cellsP p r).app g = cellsP p (r.app g) := rfl
theorem encX_app : ∀ (b : Bool) (x y : X), encX b (x.app y) = (encX b x).app (encX b y)
  | _, .nil, _ => rfl
  | true, .cons p h a c r, y => by simp only [X.app, encX, withP, cellsP_app, cellsE_app, encX_app true r y]
  | false, .cons p h a c r, y => by simp only [X.app, encX, withP, cellsE_app, encX_app false r y]
theorem encX_snoc_false (x : X) (p : Pt) (e : Ex) : encX false (x.snoc p e) = (encX false x).app (encE e) := encX_app false x _
theorem encX_snoc_true (x : X) (p : Pt) (e : Ex) : encX true (x.snoc p e) = (encX true x).app (cellsP p (encE e)) := encX_app true x _
theorem encS_app : ∀ l r : List ByteArray, encS (l ++ r) = (encS l).app (encS r)
  | [], _ => rfl
  | _ :: l, r => by simp only [List.cons_append, encS, G.app, encS_app l r]
theorem encS_len : ∀ l : List ByteArray, (encS l).len = l.length
  | [] => rfl
  | _ :: l => by simp only [encS, G.len, encS_len l, List.length_cons]
theorem encY_len : ∀ m : Nat, (encY m).len = m * 3
  | 0 => rfl
  | m + 1 => by simp only [encY, G.len, encY_len m]; omega
/-- Where an expression's four rows lie. -/
structure At where
  a1 : Option Addr
  c1 : Nat
  a2 : Option Addr
  c2 : Nat
  a3 : Option Addr
  c3 : Nat
  a4 : Option Addr
  c4 : Nat
/-- The eight cells. -/
abbrev eight (e : Ex) (q : At) : List Value := [.int .i64 e.h.k, .int .i64 e.h.n, .string e.h.t, .slice q.a1 e.h.ns.length q.c1, .slice q.a2 e.h.m q.c2, .slice q.a3 e.args.len q.c3, .slice q.a4 e.arms.len q.c4, .int .i64 0]
structure EIs (w : World) (S : Nat → Prop) (e : Ex) (q : At) : Prop where
  r1 : GRow w S q.a1 e.h.ns.length (encS e.h.ns)
  r2 : GRow w S q.a2 e.h.m (encY e.h.m)
  r3 : GRow w S q.a3 e.args.len (encX false e.args)
  r4 : GRow w S q.a4 e.arms.len (encX true e.arms)
  l1 : e.h.ns.length ≤ q.c1 ∧ q.c1 ≤ maxLen
  l2 : e.h.m ≤ q.c2 ∧ q.c2 ≤ maxLen
  l3 : e.args.len ≤ q.c3 ∧ q.c3 ≤ maxLen
  l4 : e.arms.len ≤ q.c4 ∧ q.c4 ≤ maxLen
theorem EIs.keep {w w' : World} {S S' : Nat → Prop} {e : Ex} {q : At} (h : EIs w S e q) (hS : ∀ b, S b → S' b) (hk : ∀ p : Addr, S p.block → w'.cell? p = w.cell? p) : EIs w' S' e q :=
  ⟨h.r1.keep hS hk, h.r2.keep hS hk, h.r3.keep hS hk, h.r4.keep hS hk, h.l1, h.l2, h.l3, h.l4⟩
theorem EIs.mono {w : World} {S S' : Nat → Prop} {e : Ex} {q : At} (h : EIs w S e q) (hS : ∀ b, S b → S' b) : EIs w S' e q := h.keep hS fun _ _ => rfl
theorem EIs.below {w w' : World} {e : Ex} {q : At} (h : EIs w (lt w) e q) (hb : Below w.heap.size w w') : EIs w' (lt w') e q := h.keep (fun _ h => Nat.lt_of_lt_of_le h hb.size) fun _ hp => hb.cell hp
theorem cells_e {w : World} {S : Nat → Prop} {h : Hd} {args arms : X} {r : G} {xs : List Value} (hg : GCells w S (cellsE h args.len arms.len (encX false args) (encX true arms) r) xs) :
    ∃ q ys, xs = eight ⟨h, args, arms⟩ q ++ ys ∧ EIs w S ⟨h, args, arms⟩ q ∧ GCells w S r ys := by
  obtain ⟨_, e0, _, _, e1, _, _, e2, _, A1, c1, _, e3, h1, h1', g1, A2, c2, _, e4, h2, h2', g2, A3, c3, _, e5, h3, h3', g3, A4, c4, _, e6, h4, h4', g4, ys, e7, _, hr⟩ := hg
  subst e7 e6 e5 e4 e3 e2 e1 e0
  exact ⟨⟨A1, c1, A2, c2, A3, c3, A4, c4⟩, ys, rfl, ⟨g1, g2, g3, g4, ⟨h1, h1'⟩, ⟨h2, h2'⟩, ⟨h3, h3'⟩, ⟨h4, h4'⟩⟩, hr⟩
theorem e_cells {w : World} {S : Nat → Prop} {h : Hd} {args arms : X} {r : G} {q : At} {ys : List Value} (he : EIs w S ⟨h, args, arms⟩ q) (hr : GCells w S r ys) :
    GCells w S (cellsE h args.len arms.len (encX false args) (encX true arms) r) (eight ⟨h, args, arms⟩ q ++ ys) :=
  ⟨_, rfl, rfl, _, rfl, rfl, _, rfl, rfl, q.a1, q.c1, _, rfl, he.l1.1, he.l1.2, he.r1, q.a2, q.c2, _, rfl, he.l2.1, he.l2.2, he.r2, q.a3, q.c3, _, rfl, he.l3.1, he.l3.2, he.r3, q.a4, q.c4, _, rfl, he.l4.1, he.l4.2, he.r4, ys, rfl, rfl, hr⟩
theorem ex_cells {w : World} {S : Nat → Prop} {e : Ex} {q : At} (he : EIs w S e q) : GCells w S (encE e) (eight e q) := by
  have h := e_cells (r := .nil) (ys := []) he rfl
  rw [List.append_nil] at h
  exact h
/-- What is left of a row of expressions, from the j-th on. -/
def XRest (w : World) (S : Nat → Prop) (A : Option Addr) (m j : Nat) (x : X) : Prop := x.len + j = m ∧ (0 < x.len → ∃ b o zs, A = some ⟨b, o, none⟩ ∧ S b ∧ GCells w S (encX false x) zs ∧ ∀ i u, zs[i]? = some u → w.cell? ⟨b, o + j * 8 + i, none⟩ = some u)
theorem xrest {w : World} {S : Nat → Prop} {A : Option Addr} {x : X} (h : GRow w S A x.len (encX false x)) : XRest w S A x.len 0 x := ⟨rfl, fun hl => by
  obtain ⟨b, o, zs, e, hb, hz, hc⟩ := h hl
  exact ⟨b, o, zs, e, hb, hz, fun i u hu => by simpa using hc i u hu⟩⟩
/-- Eight cells from an address on. -/
def cells8 (w : World) (ad : Addr) (e : Ex) (q : At) : Prop :=
  w.cell? ad = some (.int .i64 e.h.k) ∧ w.cell? ⟨ad.block, ad.off + 1, none⟩ = some (.int .i64 e.h.n) ∧ w.cell? ⟨ad.block, ad.off + 2, none⟩ = some (.string e.h.t) ∧ w.cell? ⟨ad.block, ad.off + 3, none⟩ = some (.slice q.a1 e.h.ns.length q.c1) ∧
  w.cell? ⟨ad.block, ad.off + 4, none⟩ = some (.slice q.a2 e.h.m q.c2) ∧ w.cell? ⟨ad.block, ad.off + 5, none⟩ = some (.slice q.a3 e.args.len q.c3) ∧ w.cell? ⟨ad.block, ad.off + 6, none⟩ = some (.slice q.a4 e.arms.len q.c4) ∧ w.cell? ⟨ad.block, ad.off + 7, none⟩ = some (.int .i64 0)
theorem cells8.keep {w w' : World} {ad : Addr} {e : Ex} {q : At} (h : cells8 w ad e q) (hk : ∀ p : Addr, p.block = ad.block → w'.cell? p = w.cell? p) : cells8 w' ad e q :=
  ⟨(hk ad rfl).trans h.1, (hk ⟨ad.block, ad.off + 1, none⟩ rfl).trans h.2.1, (hk ⟨ad.block, ad.off + 2, none⟩ rfl).trans h.2.2.1, (hk ⟨ad.block, ad.off + 3, none⟩ rfl).trans h.2.2.2.1, (hk ⟨ad.block, ad.off + 4, none⟩ rfl).trans h.2.2.2.2.1, (hk ⟨ad.block, ad.off + 5, none⟩ rfl).trans h.2.2.2.2.2.1, (hk ⟨ad.block, ad.off + 6, none⟩ rfl).trans h.2.2.2.2.2.2.1, (hk ⟨ad.block, ad.off + 7, none⟩ rfl).trans h.2.2.2.2.2.2.2⟩
theorem XRest.step {w : World} {S : Nat → Prop} {A : Option Addr} {m j : Nat} {p : Pt} {h : Hd} {args arms r : X} (hx : XRest w S A m j (.cons p h args arms r)) :
    ∃ ad q, A = some ad ∧ S ad.block ∧ cells8 w (ad.add (j * 8)) ⟨h, args, arms⟩ q ∧ EIs w S ⟨h, args, arms⟩ q ∧ XRest w S A m (j + 1) r := by
  obtain ⟨hl, h2⟩ := hx
  obtain ⟨b, o, zs, e, hb, hz, hc⟩ := h2 (by simp [X.len])
  obtain ⟨q, ys, e1, he, hr⟩ := cells_e (r := encX false r) hz
  subst e1
  refine ⟨⟨b, o, none⟩, q, e, hb, ?_, he, by simp only [X.len] at hl; omega, fun _ => ⟨b, o, ys, e, hb, hr, fun i u hu => ?_⟩⟩
  · rw [add_at]
    exact ⟨hc 0 _ rfl, hc 1 _ rfl, hc 2 _ rfl, hc 3 _ rfl, hc 4 _ rfl, hc 5 _ rfl, hc 6 _ rfl, hc 7 _ rfl⟩
  · rw [show o + (j + 1) * 8 + i = o + j * 8 + (i + 8) by omega]
    exact hc (i + 8) u (by simpa using hu)
/-- What is left of a row of arms, from the j-th on. -/
def ARest (w : World) (S : Nat → Prop) (A : Option Addr) (m j : Nat) (x : X) : Prop := x.len + j = m ∧ (0 < x.len → ∃ b o zs, A = some ⟨b, o, none⟩ ∧ S b ∧ GCells w S (encX true x) zs ∧ ∀ i u, zs[i]? = some u → w.cell? ⟨b, o + j * 12 + i, none⟩ = some u)
theorem arest {w : World} {S : Nat → Prop} {A : Option Addr} {x : X} (h : GRow w S A x.len (encX true x)) : ARest w S A x.len 0 x := ⟨rfl, fun hl => by
  obtain ⟨b, o, zs, e, hb, hz, hc⟩ := h hl
  exact ⟨b, o, zs, e, hb, hz, fun i u hu => by simpa using hc i u hu⟩⟩
/-- A pattern's four cells. -/
def cells4 (w : World) (ad : Addr) (p : Pt) (A : Option Addr) (c : Nat) : Prop :=
  w.cell? ad = some (.int .i64 p.k) ∧ w.cell? ⟨ad.block, ad.off + 1, none⟩ = some (.int .i64 p.n) ∧ w.cell? ⟨ad.block, ad.off + 2, none⟩ = some (.string p.t) ∧ w.cell? ⟨ad.block, ad.off + 3, none⟩ = some (.slice A p.a.len c)
theorem cells4.keep {w w' : World} {ad : Addr} {p : Pt} {A : Option Addr} {c : Nat} (h : cells4 w ad p A c) (hk : ∀ p : Addr, p.block = ad.block → w'.cell? p = w.cell? p) : cells4 w' ad p A c :=
  ⟨(hk ad rfl).trans h.1, (hk ⟨ad.block, ad.off + 1, none⟩ rfl).trans h.2.1, (hk ⟨ad.block, ad.off + 2, none⟩ rfl).trans h.2.2.1, (hk ⟨ad.block, ad.off + 3, none⟩ rfl).trans h.2.2.2⟩
theorem ARest.step {w : World} {S : Nat → Prop} {A : Option Addr} {m j : Nat} {p : Pt} {h : Hd} {args arms r : X} (hx : ARest w S A m j (.cons p h args arms r)) :
    ∃ ad q A' c', A = some ad ∧ S ad.block ∧ cells4 w (ad.add (j * 12)) p A' c' ∧ GRow w S A' p.a.len (encF p.a) ∧ p.a.len ≤ c' ∧ c' ≤ maxLen ∧ cells8 w ⟨(ad.add (j * 12)).block, (ad.add (j * 12)).off + 4, none⟩ ⟨h, args, arms⟩ q ∧ EIs w S ⟨h, args, arms⟩ q ∧ ARest w S A m (j + 1) r := by
  obtain ⟨hl, h2⟩ := hx
  obtain ⟨b, o, zs, e, hb, hz, hc⟩ := h2 (by simp [X.len])
  obtain ⟨_, e0, _, _, e1, _, _, e2, _, A', c', _, e3, h1, h1', g1, hz⟩ := hz
  obtain ⟨q, ys, e4, he, hr⟩ := cells_e (r := encX true r) hz
  subst e4 e3 e2 e1 e0
  refine ⟨⟨b, o, none⟩, q, A', c', e, hb, ?_, g1, h1, h1', ?_, he, by simp only [X.len] at hl; omega, fun _ => ⟨b, o, ys, e, hb, hr, fun i u hu => ?_⟩⟩
  · rw [add_at]
    exact ⟨hc 0 _ rfl, hc 1 _ rfl, hc 2 _ rfl, hc 3 _ rfl⟩
  · rw [add_at]
    exact ⟨hc 4 _ rfl, hc 5 _ rfl, hc 6 _ rfl, hc 7 _ rfl, hc 8 _ rfl, hc 9 _ rfl, hc 10 _ rfl, hc 11 _ rfl⟩
  · rw [show o + (j + 1) * 12 + i = o + j * 12 + (i + 12) by omega]
    exact hc (i + 12) u (by simpa using hu)
end Go.Proofs.YtiinghgfojicdaaGreat
