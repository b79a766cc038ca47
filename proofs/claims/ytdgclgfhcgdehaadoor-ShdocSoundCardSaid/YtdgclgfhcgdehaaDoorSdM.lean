/- The shell's documents, plainly. -/
import Derived.Test.YtdgclgfhcgdehaaDoorShT
set_option linter.unusedVariables false
set_option linter.unusedSimpArgs false
namespace Go.Dm
structure ShF where
  kind : Nat
  mark : Nat
  flags : Nat
  col : Int
  deriving DecidableEq
structure ShD where
  word : List UInt8
  strip : Bool
  raw : Bool
  deriving DecidableEq
structure ShS where
  stk : List ShF
  dep : Int
  mode : Nat
  mark : Nat
  flags : Nat
  cnt : Int
  docs : List ShD
  wait : Int
  deriving DecidableEq
structure ShE where
  op : Nat
  kind : Nat
  at_ : Nat
  to : Nat
  deriving DecidableEq
def zF : ShF := ⟨0, 0, 0, 0⟩
def zD : ShD := ⟨[], false, false⟩
def zS : ShS := ⟨List.replicate 16 zF, 0, 0, 0, 0, 0, List.replicate 4 zD, 0⟩
structure ShS.ok (s : ShS) : Prop where
  stk : s.stk.length = 16
  docs : s.docs.length = 4
def encF (x : ShF) : List Value := [.int .u8 x.kind, .int .u8 x.mark, .int .u8 x.flags, .int .i64 x.col]
def encD (x : ShD) : List Value := [str x.word, .bool x.strip, .bool x.raw]
def encS (s : ShS) : List Value := s.stk.flatMap encF ++ ([.int .i64 s.dep, .int .u8 s.mode, .int .u8 s.mark, .int .u8 s.flags, .int .i64 s.cnt] ++ (s.docs.flatMap encD ++ [.int .i64 s.wait]))
def encE (e : ShE) : List Value := [.int .u8 e.op, .int .u8 e.kind, .int .i64 e.at_, .int .i64 e.to]
def docK (s : ShS) (i : Nat) : ShD := s.docs.getD i zD
/-- Is a state one of the shell's? -/
def ownN (s : ShS) : Bool :=
  decide (s.stk = List.replicate 16 zF ∧ s.dep = 0 ∧ s.flags = 0 ∧ s.cnt = 0) && (decide (0 ≤ s.wait ∧ s.wait ≤ 4) &&
  ((List.range 4).all (fun i => (decide ((i : Int) < s.wait) || decide (docK s i = zD)) && decide ((docK s i).word.length ≤ 64)) &&
  (if s.mode = 0 then decide (s.mark = 0 ∧ s.wait = 0) else if s.mode = 1 then decide (s.mark = 0 ∨ s.mark = 39 ∨ s.mark = 34) else decide (s.mode = 2 ∧ s.mark = 0 ∧ 0 < s.wait))))
/-- What a line of a document tells. -/
def tabsN : List UInt8 → Nat
  | [] => 0
  | c :: r => if c = 9 then tabsN r + 1 else 0
def textN (s : ShS) (line : List UInt8) : List ShE × ShS :=
  let f := if (docK s 0).strip then tabsN (ctn line) else 0
  if (ctn line).drop f ≠ (docK s 0).word then ([⟨3, 56, 0, line.length⟩], s)
  else
    ([⟨3, 57, f, ctnN line⟩, ⟨2, 0, line.length, 0⟩] ++ (if 0 < s.wait - 1 then [⟨1, 55, line.length, 0⟩] else []),
      { s with docs := s.docs.drop 1 ++ [zD], wait := s.wait - 1, mark := 0, mode := if 0 < s.wait - 1 then 2 else 0 })
/-- What of the line a piece is. -/
def opT (line : List UInt8) (p : Pc) : List UInt8 := (line.take p.to).drop p.fm
def docOk (q : Pc) (s : ShS) : Bool := decide (q.kind = 51) && (q.whole && (decide (q.text.length ≤ 64) && (!q.text.contains 10 && decide (s.wait < 4))))
def putDoc (q : Pc) (strip : Bool) (s : ShS) : ShS := { s with docs := s.docs.set s.wait.toNat ⟨q.text, strip, q.raw⟩, wait := s.wait + 1 }
/-- An operator asks for a document by the word behind it. -/
def asksN (op : List UInt8) (r : List Pc) (s : ShS) : Option ShS := match r with
  | q :: _ => if docOk q s then some (putDoc q (decide (op = [60, 60, 45])) s) else none
  | [] => none
structure PS where
  ev : List ShE
  st : ShS
  opn : Bool
  fin : Nat
  jnd : Bool
def isAsk (line : List UInt8) (p : Pc) : Bool := decide (p.kind = 52) && [60, 60].isPrefixOf (opT line p)
def kindN (line : List UInt8) (p : Pc) (r : List Pc) (s : ShS) : Nat × ShS :=
  if isAsk line p then match asksN (opT line p) r s with
    | some s' => (p.kind, s')
    | none => (2, s)
  else (p.kind, s)
def pstep (line : List UInt8) (p : Pc) (r : List Pc) (x : PS) : PS :=
  ⟨x.ev ++ (if x.opn = false ∧ p.kind ≠ 53 then [⟨1, 50, p.fm, 0⟩] else []) ++ [⟨3, (kindN line p r x.st).1, p.fm, p.to⟩], (kindN line p r x.st).2, x.opn || decide (p.kind ≠ 53), p.to, decide (p.kind = 54)⟩
def prun (line : List UInt8) : List Pc → PS → PS
  | [], x => x
  | p :: r, x => prun line r (pstep line p r x)
def docEv (line : List UInt8) (s : ShS) : List ShE := if 0 < s.wait then [⟨1, 55, line.length, 0⟩] else []
def docSt (s : ShS) : ShS := { s with mark := 0, mode := if 0 < s.wait then 2 else 0 }
def piecesN (s : ShS) (line : List UInt8) : List ShE × ShS :=
  let x := prun line (rdAt line 0 s.mark).1 ⟨[], s, decide (s.mode = 1), 0, false⟩
  if (rdAt line 0 s.mark).2 ≠ 0 ∨ x.jnd = true then (x.ev, { x.st with mode := 1, mark := (rdAt line 0 s.mark).2 })
  else (x.ev ++ (if x.opn then [⟨2, 0, x.fin, 0⟩] else []) ++ docEv line x.st, docSt x.st)
/-- The state that a line is scanned from. -/
def base (s : ShS) : ShS := if ownN s then s else zS
def scanN (s : ShS) (line : List UInt8) : List ShE × ShS :=
  if line = [] then ([], base s) else if (base s).mode = 2 then textN (base s) line else piecesN (base s) line
def endN (s : ShS) : List ShE :=
  if ownN s = false ∨ s.mode = 0 then [] else [⟨3, 2, 0, 0⟩, ⟨2, 0, 0, 0⟩] ++ List.replicate (s.wait - (if s.mode = 2 then 1 else 0)).toNat ⟨3, 2, 0, 0⟩
end Go.Dm
