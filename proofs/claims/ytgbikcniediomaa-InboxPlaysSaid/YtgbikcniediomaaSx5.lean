/- What an operation that leaves memory alone comes to, by computation. Holds for every program. -/
import Derived.Test.YtgbikcniediomaaSx4
namespace Go.Sx
set_option linter.unusedSimpArgs false
set_option linter.unusedVariables false

inductive TK where
  | str (fs : List (Nat × Nat))
  | arr (n e : Nat)
  | sl (e : Nat)
  | p (e : Nat)
  | int (k : IntKind)
  | bool
  | string
  | map (k v : Nat)
  | chan (e : Nat)
  | fn
  | other

structure EncP : Type 1 where
  {α : Type}
  E : Enc α

structure TI where
  kind : TK
  size : Nat
  bytes : Nat
  zero : List SV
  eqm : Nat
  el : EncP

def TK.fits : TK → TypeDesc → Prop
  | .str fs, .struct a => a.toList.map (fun f => (f.offset, f.type)) = fs
  | .arr n e, .array n' e' => n = n' ∧ e = e'
  | .sl e, .slice e' => e = e'
  | .p e, .pointer e' => e = e'
  | .int k, .int k' => k = k'
  | .bool, .bool => True
  | .string, .string => True
  | .map k v, .map k' v' => k = k' ∧ v = v'
  | .chan e, .chan _ e' => e = e'
  | .fn, .func .. => True
  | .other, _ => True
  | _, _ => False

def TK.known (P : Program) : TK → Bool
  | .str fs => fs.all fun f => (P.info? f.2).isSome
  | _ => true

def TI.agg (t : TI) : Bool :=
  match t.kind with
  | .str _ | .arr _ _ => true
  | _ => false

def TI.oneB (t : TI) : Bool :=
  match t.kind with
  | .str _ | .arr _ _ | .other => true
  | _ => Nat.beq t.size 1

def SV.zeroB : SV → Bool
  | .v x => x.oneCell'
  | .ints _ n l => Nat.beq l.length n
  | _ => false

structure TRow (P : Program) (t : Nat) (ti : TI) : Prop where
  info : ∃ i, P.info? t = some i ∧ i.size = ti.size ∧ i.bytes = ti.bytes ∧ ∃ z, i.zero = some z ∧ z.cells.toList = denL nowhere ti.zero
  zero : ti.zero.all SV.zeroB = true
  one : ti.oneB = true
  known : ti.kind.known P = true
  und : ∃ d, P.underlying t = some d ∧ ti.kind.fits d
  eqm : ti.eqm ≠ 0 → shp P ti.eqm t (denL nowhere ti.zero) ∧ P.eqGuardType P.depth t = false ∧ ti.eqm ≤ 100 ∧ ti.agg = true
  zsl : ∀ el, ti.kind = .sl el → ∃ i, P.info? t = some i ∧ i.zero = some (.slice none 0 0)

abbrev Tab := List (Nat × TI)

def TOK (P : Program) (tt : Tab) : Prop := ∀ t ti, get tt t = some ti → TRow P t ti

def ty (tt : Tab) (t : Nat) (K : TI → Prop) : Prop :=
  match get tt t with
  | some ti => K ti
  | none => False

def constK (v : Value) (K : M → Prop) : Prop :=
  match v with
  | .agg _ => False
  | .tuple _ => False
  | v => K (.one (.v v))

def ev (e : Env) (x : Operand) (K : M → Prop) : Prop :=
  match x with
  | .tmp t => (match get e t with
    | some m => K m
    | none => False)
  | .const v => constK v K
  | .global g => (match gget gtab g with
    | some (k, l) => K (.one (.rptr ⟨g, 0, none⟩ [.ints k l.length l]))
    | none => K (.one (.v (.pointer (some ⟨g, 0, none⟩)))))
  | .func f => K (.one (.clo f []))

def idx (m : M) (K : Nat → Prop) : Prop :=
  match m with
  | .one (.v (.int _ i)) => 0 ≤ i ∧ K i.toNat
  | _ => False

def ldK (ti : TI) (l : List SV) (off : Nat) (K : M → Prop) : Prop :=
  match ti.kind with
  | .str _ => subK l off ti.size fun l' => K (.agg l')
  | .arr _ _ => subK l off ti.size fun l' => K (.agg l')
  | .other => False
  | _ => bif Nat.beq ti.size 1 then nthK l off fun s => K (.one s) else False

def num1 : List SV → Int
  | [.v (.int _ n)] => n
  | _ => 0

def bytesOf {α : Type} (enc : α → List SV) (l : List α) : List Int := l.map fun x => num1 (enc x)

def isBytes {α : Type} (enc : α → List SV) (l : List α) : Prop := ∀ x ∈ l, ∃ b : Int, enc x = [.v (.int .u8 b)]

def rowArr (ti : TI) (es k : Nat) : Bool :=
  match ti.kind with
  | .arr _ _ => Nat.beq es 1 && (Nat.beq k 0 && Nat.blt 1 ti.size)
  | _ => false

def loadK (ti : TI) (p : M) (h : Bs) (K : M → Prop) : Prop :=
  match p with
  | .one (.ptr j off) => (match get h j with
    | some (.cells l) => ldK ti l off K
    | _ => False)
  | .one (.aptr j off k) => (match get h j, ti.kind with
    | some (.cells l), .int _ => chunkK l off fun k' n il => k < n ∧ K (.one (.v (.int k' (il.getD k 0))))
    | some (.cells l), .arr _ _ => ldK ti l (off + k) K
    | _, _ => False)
  | .one (.eptr j es i k) => (match get h j with
    | some (.row es' enc l _) => bif Nat.beq es es' then
        (bif rowArr ti es k then i + ti.size ≤ l.length ∧ isBytes enc.enc l ∧ K (.agg [.ints .u8 ti.size (bytesOf enc.enc ((l.drop i).take ti.size))])
         else ∃ hi : i < l.length, ldK ti (enc l[i]) k K) else False
    | _ => False)
  | .one (.rptr _ cells) => ldK ti cells 0 K
  | _ => False

def bits (op : BinOp) (k : IntKind) (a b : Int) : Int :=
  let x := BitVec.ofInt k.bits a
  let y := BitVec.ofInt k.bits b
  match op with
  | .and => k.wrap (x &&& y).toNat
  | .or => k.wrap (x ||| y).toNat
  | .xor => k.wrap (x ^^^ y).toNat
  | _ => k.wrap (x &&& ~~~y).toNat

def shl (k : IntKind) (a b : Int) : Int := k.wrap (a * 2 ^ min b.toNat k.bits)
def shr (k : IntKind) (a b : Int) : Int := a.fdiv (2 ^ min b.toNat k.bits)

def ints2 (op : BinOp) (k : IntKind) (a : Int) (k' : IntKind) (b : Int) (K : M → Prop) : Prop :=
  match op with
  | .shl => 0 ≤ b ∧ K (.one (.v (.int k (shl k a b))))
  | .shr => 0 ≤ b ∧ K (.one (.v (.int k (shr k a b))))
  | .add => bif IntKind.beq k k' then K (.one (.v (.int k (k.wrap (a + b))))) else False
  | .sub => bif IntKind.beq k k' then K (.one (.v (.int k (k.wrap (a - b))))) else False
  | .mul => bif IntKind.beq k k' then K (.one (.v (.int k (k.wrap (a * b))))) else False
  | .quo => bif IntKind.beq k k' then b ≠ 0 ∧ K (.one (.v (.int k (k.wrap (a.tdiv b))))) else False
  | .rem => bif IntKind.beq k k' then b ≠ 0 ∧ K (.one (.v (.int k (a.tmod b)))) else False
  | .and => bif IntKind.beq k k' then K (.one (.v (.int k (bits .and k a b)))) else False
  | .or => bif IntKind.beq k k' then K (.one (.v (.int k (bits .or k a b)))) else False
  | .xor => bif IntKind.beq k k' then K (.one (.v (.int k (bits .xor k a b)))) else False
  | .andNot => bif IntKind.beq k k' then K (.one (.v (.int k (bits .andNot k a b)))) else False
  | .eql => bif IntKind.beq k k' then K (.one (.v (.bool (a == b)))) else False
  | .neq => bif IntKind.beq k k' then K (.one (.v (.bool (a != b)))) else False
  | .lss => bif IntKind.beq k k' then K (.one (.v (.bool (decide (a < b))))) else False
  | .leq => bif IntKind.beq k k' then K (.one (.v (.bool (decide (a ≤ b))))) else False
  | .gtr => bif IntKind.beq k k' then K (.one (.v (.bool (decide (b < a))))) else False
  | .geq => bif IntKind.beq k k' then K (.one (.v (.bool (decide (b ≤ a))))) else False

def strs2 (op : BinOp) (a b : ByteArray) (K : M → Prop) : Prop :=
  match op with
  | .add => ((a.size + b.size : Nat) : Int) ≤ 9223372036854775807 ∧ K (.one (.v (.string (a ++ b))))
  | .eql => K (.one (.v (.bool (a.toList == b.toList))))
  | .neq => K (.one (.v (.bool !(a.toList == b.toList))))
  | .lss => K (.one (.v (.bool (Op.bytesLess a.toList b.toList))))
  | _ => False

def isNilV : Value → Bool
  | .slice none _ _ => true
  | _ => false
def nilK (k : TK) (m : M) (K : Bool → Prop) : Prop :=
  match k, m with
  | .p _, .one (.v (.pointer none)) => K true
  | .p _, .one (.ptr _ _) => K false
  | .p _, .one (.aptr _ _ _) => K false
  | .p _, .one (.eptr _ _ _ _) => K false
  | .p _, .one (.rptr _ _) => K false
  | .sl _, .one (.v (.slice none _ _)) => K true
  | .sl _, .one (.slc _ _ _ _ _) => K false
  | .sl _, .one (.nslc _ _ _ cap) => K (Nat.beq cap 0)
  | .sl _, .one (.asl _ _ _ _ _) => K false
  | .sl _, .one (.view x es _ l) => bif Nat.ble 1 es then K (isNilV x && l.isEmpty) else False
  | .map _ _, .one (.v (.map none)) => K true
  | .map _ _, .one (.mp _) => K false
  | .chan _, .one (.v (.chan none)) => K true
  | .chan _, .one (.ch _) => K false
  | .fn, .one (.v .nilFunc) => K true
  | .fn, .one (.clo _ _) => K false
  | _, _ => False

def nil2 (k : TK) (z : Value) (x : M) (K : Bool → Prop) : Prop :=
  match k, z with
  | .p e, .pointer none => nilK (.p e) x K
  | .sl e, .slice none 0 0 => nilK (.sl e) x K
  | .map e v, .map none => nilK (.map e v) x K
  | .chan e, .chan none => nilK (.chan e) x K
  | .fn, .nilFunc => nilK .fn x K
  | _, _ => False

def eq2 (ti : TI) (x y : M) (K : Bool → Prop) : Prop :=
  match x, y with
  | .agg xs, .agg ys => bif Nat.beq ti.eqm 0 then False else eqK ti.zero xs fun _ => eqK xs ys K
  | .one (.v (.bool a)), .one (.v (.bool b)) => (match ti.kind with
    | .bool => K (a == b)
    | _ => False)
  | x, .one (.v z) => nil2 ti.kind z x K
  | _, _ => False

def binK (tt : Tab) (op : BinOp) (t : Nat) (x y : M) (K : M → Prop) : Prop :=
  match x, y with
  | .one (.v (.int k a)), .one (.v (.int k' b)) => ints2 op k a k' b K
  | .one (.v (.string a)), .one (.v (.string b)) => strs2 op a b K
  | x, y => (match op with
    | .eql => ty tt t fun ti => eq2 ti x y fun b => K (.one (.v (.bool b)))
    | .neq => ty tt t fun ti => eq2 ti x y fun b => K (.one (.v (.bool !b)))
    | _ => False)

def unK (op : UnOp) (x : M) (K : M → Prop) : Prop :=
  match op, x with
  | .not, .one (.v (.bool b)) => K (.one (.v (.bool !b)))
  | .neg, .one (.v (.int k n)) => K (.one (.v (.int k (k.wrap (0 - n)))))
  | .xor, .one (.v (.int k n)) => K (.one (.v (.int k (bits .xor k (if k.signed then -1 else k.max) n))))
  | _, _ => False

def sl (s : ByteArray) : List Int := s.data.toList.map fun b => (b.toNat : Int)

def contK (h : Bs) (m : M) (K : IntKind → List Int → Prop) : Prop :=
  match m with
  | .one (.v (.slice none 0 0)) => K .u8 []
  | .one (.view x es enc l) => bif Nat.beq es 1 then isBytes enc l ∧ K .u8 (bytesOf enc l) else
    (bif Nat.beq es 0 then (match get h 0 with
    | some (.obj _ _ (.own P)) => ∃ q, ∃ hq : q < P.length, (P[q].1 = x ∧ P[q].2.length = l.length) ∧ K .u8 P[q].2
    | _ => False) else False)
  | .one (.slc j es off len _) => (match get h j with
    | some (.row es' enc l _) => bif Nat.beq es 1 && Nat.beq es' 1 then off + len ≤ l.length ∧ isBytes enc.enc l ∧ K .u8 (bytesOf enc.enc ((l.drop off).take len)) else False
    | _ => False)
  | .one (.nslc j es len _) => (match get h j with
    | some (.row es' enc l _) => bif Nat.beq es 1 && Nat.beq es' 1 then len ≤ l.length ∧ isBytes enc.enc l ∧ K .u8 (bytesOf enc.enc (l.take len)) else False
    | _ => False)
  | .one (.asl j off i len _) => (match get h j with
    | some (.cells l) => chunkK l off fun k n il => i + len ≤ n ∧ K k ((il.drop i).take len)
    | _ => False)
  | _ => False

def convK (tt : Tab) (src dst : Nat) (x : M) (h : Bs) (K : M → Prop) : Prop :=
  ty tt src fun s => ty tt dst fun d =>
  match s.kind, d.kind, x with
  | .int _, .int k, .one (.v (.int _ n)) => K (.one (.v (.int k (k.wrap n))))
  | .string, .string, .one (.v (.string b)) => K (.one (.v (.string b)))
  | .sl e, .string, x => ty tt e fun te => (match te.kind with
    | .int .u8 => contK h x fun k l => bif IntKind.beq k .u8 then K (.one (.v (.string (strOfNums l)))) else False
    | _ => False)
  | _, _, _ => False

def vaddr (x : Value) (k : Nat) : Addr :=
  match x with
  | .slice (some a) _ _ => ⟨a.block, a.off + k, none⟩
  | _ => ⟨0, 0, none⟩

def vcap (x : Value) : Nat :=
  match x with
  | .slice _ _ c => c
  | _ => 0

def vslice (x : Value) (es lo hi mx : Nat) : Value :=
  match x with
  | .slice a _ _ => .slice (if mx = lo then a else a.map (·.add (lo * es))) (hi - lo) (mx - lo)
  | x => x

def fldK : List (Nat × Nat) → Nat → (Nat → Nat → Prop) → Prop
  | [], _, _ => False
  | (o, t) :: r, i, K => match i with
    | 0 => K o t
    | i + 1 => fldK r i K

def fieldAddrK (tt : Tab) (s : Nat) (x : M) (f : Nat) (K : M → Prop) : Prop :=
  ty tt s fun ti => match ti.kind with
  | .str fs => fldK fs f fun o t => ty tt t fun tf => bif Nat.beq tf.size 0 then False else
    (match x with
    | .one (.ptr j off) => K (.one (.ptr j (off + o)))
    | .one (.eptr j es i k) => K (.one (.eptr j es i (k + o)))
    | .one (.rptr a cells) => subK cells o tf.size fun l => K (.one (.rptr ⟨a.block, a.off + o, none⟩ l))
    | _ => False)
  | _ => False

def fieldK (tt : Tab) (s : Nat) (x : M) (f : Nat) (K : M → Prop) : Prop :=
  ty tt s fun ti => match ti.kind, x with
  | .str fs, .agg l => fldK fs f fun o t => ty tt t fun tf => ldK tf l o K
  | _, _ => False

def indexAddrK (tt : Tab) (t : Nat) (x i : M) (K : M → Prop) : Prop :=
  ty tt t fun ti => match ti.kind with
  | .arr n e => ty tt e fun te => idx i fun k => k < n ∧
    (match x, te.kind with
    | .one (.ptr j off), .int _ => bif Nat.beq te.size 1 then K (.one (.aptr j off k)) else False
    | .one (.ptr j off), _ => K (.one (.ptr j (off + k * te.size)))
    | .one (.rptr a cells), .int _ => bif Nat.beq te.size 1 then chunkK cells 0 fun kk m il => k < m ∧ K (.one (.rptr ⟨a.block, a.off + k, none⟩ [.v (.int kk (il.getD k 0))])) else False
    | _, _ => False)
  | .sl e => ty tt e fun te => idx i fun k =>
    (match x with
    | .one (.slc j es off len _) => bif Nat.beq es te.size then k < len ∧ K (.one (.eptr j es (off + k) 0)) else (bif Nat.beq es (te.size + 1000000) && Nat.beq off 0 then k < len ∧ K (.one (.eptr j te.size k 0)) else False)
    | .one (.nslc j es len _) => bif Nat.beq es te.size then k < len ∧ K (.one (.eptr j es k 0)) else False
    | .one (.asl j off i len _) => bif Nat.beq te.size 1 then k < len ∧ K (.one (.aptr j off (i + k))) else False
    | .one (.view x es enc l) => bif Nat.beq es te.size && Nat.ble 1 es then ∃ hk : k < l.length, K (.one (.rptr (vaddr x (k * es)) (enc l[k]))) else
      (bif Nat.beq es 0 && Nat.beq te.size 1 then ∃ b o m c, x = .slice (some ⟨b, o, none⟩) m c ∧ k < l.length ∧ K (.one (.v (.pointer (some ⟨b, o + k, none⟩)))) else False)
    | _ => False)
  | _ => False

def indexK (tt : Tab) (t : Nat) (x i : M) (K : M → Prop) : Prop :=
  ty tt t fun ti => match ti.kind, x with
  | .arr n e, .agg l => ty tt e fun te => idx i fun k => k < n ∧
    (match te.kind with
    | .int _ => bif Nat.beq te.size 1 then chunkK l 0 fun kk m il => k < m ∧ K (.one (.v (.int kk (il.getD k 0)))) else False
    | _ => ldK te l (k * te.size) K)
  | .string, .one (.v (.string s)) => idx i fun k => k < s.size ∧ K (.one (.v (.int .u8 ((sl s).getD k 0))))
  | _, _ => False

def optK (e : Env) (x : Option Operand) (d : Nat) (K : Nat → Prop) : Prop :=
  match x with
  | none => K d
  | some x => ev e x fun m => idx m K

def fulB (lo hi mx : Option Operand) (off : Nat) : Bool := mx.isSome && hi.isSome && lo.isNone && Nat.beq off 0

def sliceK (tt : Tab) (e : Env) (t : Nat) (x : M) (lo hi mx : Option Operand) (h : Bs) (K : M → Prop) : Prop :=
  ty tt t fun ti => match ti.kind, x with
  | .string, .one (.v (.string s)) => (match mx with
    | some _ => False
    | none => optK e hi s.size fun b => optK e lo 0 fun a => a ≤ b ∧ b ≤ s.size ∧ K (.one (.v (.string (s.extract a b)))))
  | .sl el, .one (.slc j es off len cap) => ty tt el fun te => bif Nat.beq es te.size then
      (bif fulB lo hi mx off then optK e mx cap fun m => optK e hi len fun b => b = m ∧ m ≤ cap ∧ K (.one (.slc j (es + 1000000) 0 m m)) else
      (match mx, hi with
      | some _, none => False
      | _, _ => optK e mx cap fun m => optK e hi len fun b => optK e lo 0 fun a => a ≤ b ∧ b ≤ m ∧ m ≤ cap ∧ K (.one (.slc j es (if m = a then off else off + a) (b - a) (m - a))))) else False
  | .sl el, .one (.nslc j es len cap) => ty tt el fun te => bif Nat.beq es te.size then
      (match mx, lo with
      | none, none => optK e hi len fun b => b ≤ cap ∧ K (.one (.nslc j es b cap))
      | none, some lo => optK e hi len fun b => optK e (some lo) 0 fun a => 0 < cap ∧ a ≤ b ∧ b ≤ cap ∧ K (.one (.slc j es (if cap = a then 0 else a) (b - a) (cap - a)))
      | _, _ => False) else False
  | .sl el, .one (.asl j off i len cap) => ty tt el fun te => bif Nat.beq te.size 1 then
      (match mx, hi with
      | some _, none => False
      | _, _ => optK e mx cap fun m => optK e hi len fun b => optK e lo 0 fun a => a ≤ b ∧ b ≤ m ∧ m ≤ cap ∧ K (.one (.asl j off (if m = a then i else i + a) (b - a) (m - a)))) else False
  | .sl el, .one (.view x es enc l) => ty tt el fun te => bif Nat.beq es te.size then
      (match mx, hi with
      | some _, none => False
      | none, _ => optK e hi l.length fun b => optK e lo 0 fun a => a ≤ b ∧ b ≤ l.length ∧
          K (.one (.view (vslice x es a b (vcap x)) es enc ((l.drop a).take (b - a))))
      | _, _ => optK e mx 0 fun m => optK e hi l.length fun b => optK e lo 0 fun a => a ≤ b ∧ b ≤ l.length ∧ b ≤ m ∧ m ≤ l.length ∧
          K (.one (.view (vslice x es a b m) es enc ((l.drop a).take (b - a))))) else False
  | .sl el, .one (.v (.slice none 0 0)) => (match mx with
    | some _ => (match hi with
      | none => False
      | some _ => ty tt el fun _ => optK e mx 0 fun m => optK e hi 0 fun b => optK e lo 0 fun a => a = 0 ∧ b = 0 ∧ m = 0 ∧ K (.one (.v (.slice none 0 0))))
    | none => ty tt el fun _ => optK e hi 0 fun b => optK e lo 0 fun a => a = 0 ∧ b = 0 ∧ K (.one (.v (.slice none 0 0))))
  | .arr n el, .one (.ptr j off) => ty tt el fun te => (match te.kind with
    | .int _ => bif Nat.beq te.size 1 then
      (match get h j, mx, hi with
      | _, some _, none => False
      | _, _, _ => optK e mx n fun m => optK e hi n fun b => optK e lo 0 fun a => a ≤ b ∧ b ≤ m ∧ m ≤ n ∧ K (.one (.asl j off (if m = a then 0 else a) (b - a) (m - a)))) else False
    | _ => False)
  | .arr n el, .one (.rptr ad cells) => ty tt el fun te => (match te.kind, mx, hi, lo with
    | .int _, none, none, none => bif Nat.beq te.size 1 then
        chunkK cells 0 fun kk m il => bif Nat.beq m n then K (.one (.view (.slice (some ad) n n) 1 (fun b : Int => [.v (.int kk b)]) il)) else False else False
    | _, _, _, _ => False)
  | _, _ => False

def extK : List M → Nat → (M → Prop) → Prop
  | [], _, _ => False
  | m :: r, i, K => match i with
    | 0 => K m
    | i + 1 => extK r i K

def capsK (e : Env) : List Operand → (List CV → Prop) → Prop
  | [], K => K []
  | x :: r, K => ev e x fun m => capsK e r fun l => match m with
    | .one (.ptr j off) => K (.ptr j off :: l)
    | .one (.v x) => K (.v x :: l)
    | _ => False

def lenK (tt : Tab) (t : Nat) (m : M) (K : M → Prop) : Prop :=
  ty tt t fun ti => match ti.kind, m with
  | .string, .one (.v (.string s)) => K (.one (.v (.int .i64 (s.size : Int))))
  | .arr n _, _ => K (.one (.v (.int .i64 (n : Int))))
  | .sl _, .one (.v (.slice none 0 0)) => K (.one (.v (.int .i64 0)))
  | .sl _, .one (.slc _ _ _ len _) => K (.one (.v (.int .i64 (len : Int))))
  | .sl _, .one (.nslc _ _ len _) => K (.one (.v (.int .i64 (len : Int))))
  | .sl _, .one (.asl _ _ _ len _) => K (.one (.v (.int .i64 (len : Int))))
  | .sl _, .one (.view _ _ _ l) => K (.one (.v (.int .i64 (l.length : Int))))
  | _, _ => False

def minmaxK (b : Builtin) (x y : M) (K : M → Prop) : Prop :=
  match b, x, y with
  | .min, .one (.v (.int k a)), .one (.v (.int _ c)) => K (.one (.v (.int k (if c < a then c else a))))
  | .max, .one (.v (.int k a)), .one (.v (.int _ c)) => K (.one (.v (.int k (if c > a then c else a))))
  | _, _, _ => False

def partsK (offs : Nat → (Nat → Nat → Prop) → Prop) (e : Env) : List (Nat × Operand) → List SV → (List SV → Prop) → Prop
  | [], l, K => K l
  | (i, x) :: r, l, K => offs i fun off sz => ev e x fun m => match m with
    | .one s => bif Nat.beq sz 1 then set1K l off s fun l' => partsK offs e r l' K else False
    | .agg new => bif Nat.beq (wdL new) sz then setK l off new sz fun l' => partsK offs e r l' K else False
    | .tup _ => False

def buildK (tt : Tab) (e : Env) (t : Nat) (parts : List (Nat × Operand)) (K : M → Prop) : Prop :=
  ty tt t fun ti => match ti.kind with
  | .str fs => partsK (fun i K => fldK fs i fun o t => ty tt t fun tf => K o tf.size) e parts ti.zero fun l => K (.agg l)
  | .arr n el => ty tt el fun te => partsK (fun i K => bif Nat.blt i n then K (i * te.size) te.size else False) e parts ti.zero fun l => K (.agg l)
  | _ => False

def mapB (tt : Tab) (t m : Nat) : Bool :=
  match get tt t with
  | some ti => (match ti.kind with
    | .map kt el => (match get tt kt, get tt el with
      | some kti, some eti => (match eti.kind with
        | .sl _ => true
        | _ => false) && (match kti.kind with
        | .arr m2 e => Nat.beq m m2 && (match get tt e with
          | some ei => (match ei.kind with
            | .int k => kindB k .u8
            | _ => false) && Nat.beq ei.size 1
          | none => false)
        | _ => false) && (match kti.zero with
        | [.ints k2 m3 _] => kindB k2 .u8 && Nat.beq m m3
        | _ => false) && !(Nat.beq kti.eqm 0)
      | _, _ => false)
    | _ => false)
  | none => false
def lookK (tt : Tab) (t : Nat) (mm mx : M) (h : Bs) (K : M → Prop) : Prop :=
  match mm with
  | .one (.mp j) => (match get h j with
    | some (.obj _ [v] (.map m key _)) => (match mx with
      | .agg [.ints k m' key'] => bif mapB tt t m && Nat.beq m m' && kindB k .u8 && v.isOne then key' = key ∧ K (.one v) else False
      | _ => False)
    | _ => False)
  | _ => False

def qop (tt : Tab) (o : Op) (e : Env) (h : Bs) (K : M → Prop) : Prop :=
  match o with
  | .move x => ev e x K
  | .assign x => ev e x K
  | .pick c a b => ev e c fun c => match c with
    | .one (.v (.bool t)) => bif t then ev e a K else ev e b K
    | _ => False
  | .build t parts => buildK tt e t parts.toList K
  | .load t a => ev e a fun p => ty tt t fun ti => loadK ti p h K
  | .nilCheck x => ev e x fun m => match m with
    | .one (.ptr j off) => K (.one (.ptr j off))
    | .one (.aptr j off k) => K (.one (.aptr j off k))
    | .one (.eptr j es i k) => K (.one (.eptr j es i k))
    | .one (.rptr a l) => K (.one (.rptr a l))
    | .one (.clo f l) => K (.one (.clo f l))
    | _ => False
  | .sliceToArrayPointer t x => ev e x fun m => match m with
    | .one (.asl j off i len _) => ty tt t fun ti => (match ti.kind with
      | .arr m _ => m ≤ len ∧ K (.one (.aptr j off i))
      | _ => False)
    | .one (.slc j es off len _) => ty tt t fun ti => (match ti.kind with
      | .arr m _ => m ≤ len ∧ K (.one (.eptr j es off 0))
      | _ => False)
    | .one (.view x es enc l) => ty tt t fun ti => (match ti.kind with
      | .arr m _ => bif Nat.beq es 1 && Nat.ble 1 m then m ≤ l.length ∧ isBytes enc l ∧ K (.one (.rptr (vaddr x 0) [.ints .u8 m (bytesOf enc (l.take m))])) else False
      | _ => False)
    | _ => False
  | .binOp op t x y _ => ev e x fun mx => ev e y fun my => binK tt op t mx my K
  | .unOp op _ x => ev e x fun m => unK op m K
  | .convert src dst x => ev e x fun m => convK tt src dst m h K
  | .lookup t x i false => ev e x fun mm => ev e i fun mx => lookK tt t mm mx h K
  | .fieldAddr s x f => ev e x fun m => fieldAddrK tt s m f K
  | .field s x f => ev e x fun m => fieldK tt s m f K
  | .indexAddr t x i => ev e x fun m => ev e i fun k => indexAddrK tt t m k K
  | .index t x i => ev e x fun m => ev e i fun k => indexK tt t m k K
  | .slice t x lo hi mx => ev e x fun m => sliceK tt e t m lo hi mx h K
  | .extract x i => ev e x fun m => match m with
    | .tup l => extK l i K
    | _ => False
  | .makeFunc (.func f) first captured => bif first.isEmpty then capsK e captured.toList fun l => K (.one (.clo f l)) else False
  | .call ⟨.builtin .len, args, ts⟩ => (match args.toList, ts.toList with
    | [x], [t] => ev e x fun m => lenK tt t m K
    | _, _ => False)
  | .call ⟨.builtin b, args, _⟩ => (match args.toList with
    | [x, y] => ev e x fun mx => ev e y fun my => minmaxK b mx my K
    | _ => False)
  | _ => False

end Go.Sx
