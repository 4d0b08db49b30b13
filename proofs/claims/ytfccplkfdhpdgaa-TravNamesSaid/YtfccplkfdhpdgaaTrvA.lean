
/-
  Traversers: what they are in memory; opened from data.
-/
import Derived.Test.YtfccplkfdhpdgaaValD
set_option linter.unusedSimpArgs false
set_option linter.unusedVariables false
namespace Go.Proofs.Ytfccplkfdhpdgaa
open Go.ChangeShapes Go.WideShapes Go.ChangeAt Go.RowKit Go.Deep

structure TravD where
  v : Val
  path : List Val
  tags : List (List UInt8 × Val)
  bulk : Int
instance : Inhabited TravD := ⟨⟨default, [], [], 0⟩⟩

abbrev travV (k : Int) (b : Bool) (n : Int) (f : Nat) (s : List UInt8) (B : Option Addr) (len c : Nat) (P : Option Addr) (pl pc : Nat) (T : Option Addr) (tl tc : Nat) (q : Int) : Value :=
  .agg #[.int .i64 k, .bool b, .int .i64 n, .float .f64 f, .string (st s), .slice B len c, .slice P pl pc, .slice T tl tc, .int .i64 q]
/-- the nine cells of a traverser at an address, as the walk reads them -/
structure TravAt (w : World) (a : Addr) (k : Int) (b : Bool) (n : Int) (f : Nat) (s : List UInt8) (B : Option Addr) (len c : Nat) (P : Option Addr) (pl pc : Nat) (T : Option Addr) (tl tc : Nat) (q : Int) : Prop where
  lt : a.block < w.heap.size
  c0 : w.cell? a = some (.int .i64 k)
  c1 : w.cell? ⟨a.block, a.off + 1, none⟩ = some (.bool b)
  c2 : w.cell? ⟨a.block, a.off + 2, none⟩ = some (.int .i64 n)
  c3 : w.cell? ⟨a.block, a.off + 3, none⟩ = some (.float .f64 f)
  c4 : w.cell? ⟨a.block, a.off + 4, none⟩ = some (.string (st s))
  c5 : w.cell? ⟨a.block, a.off + 5, none⟩ = some (.slice B len c)
  c6 : w.cell? ⟨a.block, a.off + 6, none⟩ = some (.slice P pl pc)
  c7 : w.cell? ⟨a.block, a.off + 7, none⟩ = some (.slice T tl tc)
  c8 : w.cell? ⟨a.block, a.off + 8, none⟩ = some (.int .i64 q)
theorem TravAt.keep {w w' : World} {a : Addr} {k : Int} {b : Bool} {n : Int} {f : Nat} {s : List UInt8} {B : Option Addr} {len c : Nat} {P : Option Addr} {pl pc : Nat} {T : Option Addr} {tl tc : Nat} {q : Int} (h : TravAt w a k b n f s B len c P pl pc T tl tc q) (hb : Below w.heap.size w w') : TravAt w' a k b n f s B len c P pl pc T tl tc q :=
  ⟨Nat.lt_of_lt_of_le h.lt hb.size, (hb.cell (p := a) h.lt).trans h.c0, (hb.cell (p := ⟨a.block, a.off + 1, none⟩) h.lt).trans h.c1, (hb.cell (p := ⟨a.block, a.off + 2, none⟩) h.lt).trans h.c2, (hb.cell (p := ⟨a.block, a.off + 3, none⟩) h.lt).trans h.c3, (hb.cell (p := ⟨a.block, a.off + 4, none⟩) h.lt).trans h.c4, (hb.cell (p := ⟨a.block, a.off + 5, none⟩) h.lt).trans h.c5,
   (hb.cell (p := ⟨a.block, a.off + 6, none⟩) h.lt).trans h.c6, (hb.cell (p := ⟨a.block, a.off + 7, none⟩) h.lt).trans h.c7, (hb.cell (p := ⟨a.block, a.off + 8, none⟩) h.lt).trans h.c8⟩
/-- the seven cells of a name and its value -/
structure TagAt (w : World) (a : Addr) (x : List UInt8) (k : Int) (b : Bool) (n : Int) (f : Nat) (s : List UInt8) (B : Option Addr) (len c : Nat) : Prop where
  lt : a.block < w.heap.size
  c0 : w.cell? a = some (.string (st x))
  c1 : w.cell? ⟨a.block, a.off + 1, none⟩ = some (.int .i64 k)
  c2 : w.cell? ⟨a.block, a.off + 2, none⟩ = some (.bool b)
  c3 : w.cell? ⟨a.block, a.off + 3, none⟩ = some (.int .i64 n)
  c4 : w.cell? ⟨a.block, a.off + 4, none⟩ = some (.float .f64 f)
  c5 : w.cell? ⟨a.block, a.off + 5, none⟩ = some (.string (st s))
  c6 : w.cell? ⟨a.block, a.off + 6, none⟩ = some (.slice B len c)
theorem TagAt.keep {w w' : World} {a : Addr} {x : List UInt8} {k : Int} {b : Bool} {n : Int} {f : Nat} {s : List UInt8} {B : Option Addr} {len c : Nat} (h : TagAt w a x k b n f s B len c) (hb : Below w.heap.size w w') : TagAt w' a x k b n f s B len c :=
  ⟨Nat.lt_of_lt_of_le h.lt hb.size, (hb.cell (p := a) h.lt).trans h.c0, (hb.cell (p := ⟨a.block, a.off + 1, none⟩) h.lt).trans h.c1, (hb.cell (p := ⟨a.block, a.off + 2, none⟩) h.lt).trans h.c2, (hb.cell (p := ⟨a.block, a.off + 3, none⟩) h.lt).trans h.c3, (hb.cell (p := ⟨a.block, a.off + 4, none⟩) h.lt).trans h.c4, (hb.cell (p := ⟨a.block, a.off + 5, none⟩) h.lt).trans h.c5, (hb.cell (p := ⟨a.block, a.off + 6, none⟩) h.lt).trans h.c6⟩
def Tags (w : World) (T : Option Addr) (tags : List (List UInt8 × Val)) : Prop := ∀ (i : Nat) (x : List UInt8 × Val), tags[i]? = some x → ∃ ad k b n f s B len c, T = some ad ∧ x.1.length ≤ 140737488351232 ∧ Has w (valV k b n f s B len c) x.2 ∧ TagAt w (ad.add (i * 7)) x.1 k b n f s B len c
theorem Tags.keep {w w' : World} {T : Option Addr} {tags : List (List UInt8 × Val)} (h : Tags w T tags) (hb : Below w.heap.size w w') : Tags w' T tags := fun i x hx => by
  obtain ⟨ad, k, b, n, f, s, B, len, c, h1, h0, h2, h3⟩ := h i x hx
  exact ⟨ad, k, b, n, f, s, B, len, c, h1, h0, h2.keep hb, h3.keep hb⟩

/-- what a traverser in memory is -/
structure HasT (w : World) (k : Int) (b : Bool) (n : Int) (f : Nat) (s : List UInt8) (B : Option Addr) (len c : Nat) (P : Option Addr) (pl pc : Nat) (T : Option Addr) (tl tc : Nat) (q : Int) (t : TravD) : Prop where
  hv : Has w (valV k b n f s B len c) t.v
  hp : Parts w P t.path
  epl : pl = t.path.length
  hpc : t.path.length ≤ pc
  hpm : pc ≤ maxLen
  ht : Tags w T t.tags
  etl : tl = t.tags.length
  htc : t.tags.length ≤ tc
  htm : tc ≤ maxLen
  ebq : q = t.bulk
  qi : I64 t.bulk
theorem HasT.keep {w w' : World} {k : Int} {b : Bool} {n : Int} {f : Nat} {s : List UInt8} {B : Option Addr} {len c : Nat} {P : Option Addr} {pl pc : Nat} {T : Option Addr} {tl tc : Nat} {q : Int} {t : TravD} (h : HasT w k b n f s B len c P pl pc T tl tc q t) (hb : Below w.heap.size w w') : HasT w' k b n f s B len c P pl pc T tl tc q t :=
  ⟨h.hv.keep hb, h.hp.keep hb, h.epl, h.hpc, h.hpm, h.ht.keep hb, h.etl, h.htc, h.htm, h.ebq, h.qi⟩
/-- the parts of a slice of traversers -/
def TParts (w : World) (A : Option Addr) (ts : List TravD) : Prop := ∀ (i : Nat) (t : TravD), ts[i]? = some t → ∃ ad k b n f s B len c P pl pc T tl tc q, A = some ad ∧ HasT w k b n f s B len c P pl pc T tl tc q t ∧ TravAt w (ad.add (i * 9)) k b n f s B len c P pl pc T tl tc q
theorem TParts.keep {w w' : World} {A : Option Addr} {ts : List TravD} (h : TParts w A ts) (hb : Below w.heap.size w w') : TParts w' A ts := fun i t hx => by
  obtain ⟨ad, k, b, n, f, s, B, len, c, P, pl, pc, T, tl, tc, q, h1, h2, h3⟩ := h i t hx
  exact ⟨ad, k, b, n, f, s, B, len, c, P, pl, pc, T, tl, tc, q, h1, h2.keep hb, h3.keep hb⟩
end Go.Proofs.Ytfccplkfdhpdgaa
