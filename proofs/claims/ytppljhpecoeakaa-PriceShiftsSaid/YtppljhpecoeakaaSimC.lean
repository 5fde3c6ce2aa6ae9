/- The ideal operations: deterministic functions on ideal values. -/
import Derived.Test.YtppljhpecoeakaaSimB
set_option linter.unusedVariables false
set_option linter.unusedSimpArgs false
namespace Sim
open Go
def CW:Value→PV
 | .bool b=>.bool b
 | .int k n=>.int k n
 | .string s=>if s.data.toList.length≤9223372036854775807 then .str s.data.toList else .bad
 | .pointer none=>.nilp
 | .slice none 0 0=>.nils
 | .func fn ⟨[]⟩ ⟨[]⟩=>.func fn [] []
 | .nilFunc=>.nilf
 | .nilIface=>.nili
 | .map none=>.nilm
 | _=>.bad
def Bh:Value→PV
 | .agg cs=>if (cs.toList.map CW).all PV.isCell then .agg (cs.toList.map CW)else .bad
 | v=>CW v
def Ad (P:Program) (t:TypeId):Nat :=
 match P.underlying t with
 | some (.slice e) =>
  match P.info? e with
  | some i=>match i.zero with
   | some v=>if 0<i.size∧i.size≤65536∧i.bytes≤65536∧v.cells.size=i.size∧(Bh v).cells.length=i.size then i.size else 0
   | none=>0
  | none=>0
 | _=>0
def BR (P:Program) (t:TypeId):TypeId:=match P.underlying t with | some (.slice e)=>e | _=>0
def BH (P:Program) (t:TypeId):Option (Nat×Nat):=match P.underlying t with | some (.array n e)=>some (n,P.cellsOf e) | _=>none
def II (P:Program) (t:TypeId):Option (Nat×TypeId):=match P.underlying t with | some (.array n e)=>some (n,e) | _=>none
def Bc (P:Program) (t:TypeId) (f:Nat):Option (Nat×Nat×TypeId) :=
 match P.underlying t with
 | some (.struct fs)=>(fs[f]?).map fun x=>(x.offset,P.cellsOf x.type,x.type)
 | _=>none
def WC (P:Program) (t:TypeId):Bool:=match P.underlying t with | some (.struct _) | some (.array ..)=>true | _=>false
def Bu (P:Program) (t:TypeId):Option (Nat×Bool):=match P.underlying t with | some _=>if 0<P.cellsOf t then some (P.cellsOf t,WC P t)else none | none=>none
def AT (P:Program) (t:TypeId):Bool:=match P.underlying t with | some .string=>true | _=>false
def ER (P:Program) (t:TypeId):Option IntKind:=match P.underlying t with | some (.int k)=>some k | _=>none
def GZ (P:Program) (t:TypeId):Bool:=match P.underlying t with | some .bool=>true | _=>false
def Jo (P:Program) (t:TypeId):Bool:=match P.underlying t with | some (.interface _)=>true | _=>false
def AD (P:Program) (t:TypeId):PV:=match (P.info? t).bind (·.zero)with | some v=>Bh v | none=>.bad
def Ay (ρ:Nat→PV):Operand→PV
 | .tmp t=>ρ t
 | .const v=>Bh v
 | .global _=>.bad
 | .func f=>.func (.func f) [] []
def nth (l:List PV) (i:Nat):PV:=l.getD i .bad
def Store.arr? (st:Store) (id gen:Nat):Option (Nat×List PV) :=
 match st.obj id with
 | some (.arr g z es)=>if gen=g then some (z,es)else none
 | _=>none
def Store.new (st:Store) (o:IObj):Store:=⟨Aa st.obj st.next (some o),st.next+1⟩
def Store.set (st:Store) (id:Nat) (o:IObj):Store:=⟨Aa st.obj id (some o),st.next⟩
def Store.re (st:Store) (k z:Nat) (l:List PV) (n:Nat):Option (PV×Store) :=
 match st.obj (k-1)with
 | some (.arr g _ _)=>some (.ref (k-1) (g+1) 0 n,st.set (k-1) (.arr (g+1) z l))
 | _=>none
def Store.reP (st:Store) (k z:Nat) (e:PV):Option (PV×Store) :=
 match st.obj (k-1)with
 | some (.arr g _ _)=>some (.ptr (k-1) (g+1) 0 0,st.set (k-1) (.arr (g+1) z [e]))
 | _=>none
def Ek (k:Nat) (x y:PV):Bool :=
 match x,y with
 | .ref id _ _ _,.lits _ _ | .ref id _ _ _,.nils=>id==k-1
 | _,_=>false
def CI (cells:List PV) (off sz:Nat) (ag:Bool):Option PV :=
 if ag then (if off+sz≤cells.length then some (.agg ((cells.drop off).take sz))else none)else cells[off]?
def Dh (st:Store) (sz:Nat) (ag:Bool):PV→Option PV
 | .vptr cells off=>CI cells off sz ag
 | .ptr id gen idx off=>(st.arr? id gen).bind fun q=>CI (nth q.2 idx).cells off sz ag
 | _=>none
def Dr (cells:List PV) (off:Nat) (vs:List PV):List PV:=cells.take off++vs++cells.drop (off+vs.length)
def A6 (e:PV) (off:Nat) (vs:List PV):PV :=
 match e with
 | .agg cs=>.agg (Dr cs off vs)
 | _=>match vs with | [v]=>v | _=>.agg vs
def ES (st:Store) (sz:Nat) (a v:PV):Option Store :=
 match a with
 | .ptr id gen idx off=>(st.arr? id gen).bind fun q =>
   if v.cells.length=sz∧0<sz∧idx<q.2.length∧off+sz≤q.1 then some (st.set id (.arr gen q.1 (q.2.set idx (A6 (nth q.2 idx) off v.cells))))else none
 | _=>none
def CX (st:Store) (p:PV) (o:Nat):Option PV :=
 match p with
 | .vptr cells off=>some (.vptr cells (off+o))
 | .ptr id gen idx off=>(st.arr? id gen).map fun _=>.ptr id gen idx (off+o)
 | _=>none
def Cv (P:Program) (st:Store) (t:TypeId) (x:PV) (i:Int):Option PV :=
 match x with
 | .lits z l=>if 0≤i∧i<l.length∧z=Ad P t∧0<z then some (.vptr (nth l i.toNat).cells 0)else none
 | .ref id gen s n=>(st.arr? id gen).bind fun q =>
   if 0≤i∧i<n∧s+n≤q.2.length∧q.1=Ad P t then some (.ptr id gen (s+i.toNat) 0)else none
 | .vptr cells off=>(BH P t).bind fun (n,z)=>if 0≤i∧i<n∧0<z then some (.vptr cells (off+i.toNat*z))else none
 | .ptr id gen idx off=>(st.arr? id gen).bind fun _=>(BH P t).bind fun (n,z)=>if 0≤i∧i<n∧0<z then some (.ptr id gen idx (off+i.toNat*z))else none
 | _=>none
def IJ (P:Program) (t:TypeId) (x:PV) (i:Int):Option PV :=
 match x with
 | .str s=>if 0≤i∧i<s.length∧AT P t=true then some (.int .u8 (s.getD i.toNat 0).toNat)else none
 | .agg cs=>(II P t).bind fun (n,e)=>(Bu P e).bind fun (z,ag)=>if 0≤i∧i<n then CI cs (i.toNat*z) z ag else none
 | _=>none
def Jp (st:Store) (z:Nat) (sb:Bool):PV→Option Int
 | .nils=>if 0<z then some 0 else none
 | .lits _ l=>if 0<z then some l.length else none
 | .ref id gen _ n=>(st.arr? id gen).bind fun _=>if 0<z then some n else none
 | .str s=>if sb=true then some s.length else none
 | _=>none
def CY:PV→Option Int
 | .int _ n=>some n
 | _=>none
def Cj (st:Store) (z:Nat):PV→Option (List PV)
 | .nils=>some []
 | .lits z' l=>if z'=z then some l else none
 | .ref id gen s n=>(st.arr? id gen).bind fun q=>if s+n≤q.2.length∧q.1=z then some ((q.2.drop s).take n)else none
 | .str s=>if z=1 then some (s.map fun b=>.int .u8 b.toNat)else none
 | _=>none
def Ck (st:Store) (z:Nat) (sb:Bool) (ar:Option (Nat×Nat)) (x:PV) (lo hi:Option Int):Option PV :=
 match x with
 | .nils=>if lo.getD 0=0∧hi.getD 0=0∧0<z then some .nils else none
 | .lits z' l=>if 0≤lo.getD 0∧lo.getD 0≤hi.getD l.length∧hi.getD l.length≤l.length∧z'=z∧0<z then some (.lits z ((l.drop (lo.getD 0).toNat).take ((hi.getD l.length).toNat-(lo.getD 0).toNat)))else none
 | .ref id gen s n=>(st.arr? id gen).bind fun q=>if 0≤lo.getD 0∧lo.getD 0≤hi.getD n∧hi.getD n≤(q.2.length:Int)-s∧s≤q.2.length∧q.1=z then some (.ref id gen (s+(lo.getD 0).toNat) ((hi.getD n).toNat-(lo.getD 0).toNat))else none
 | .str s=>if 0≤lo.getD 0∧lo.getD 0≤hi.getD s.length∧hi.getD s.length≤s.length∧sb=true then some (.str ((s.drop (lo.getD 0).toNat).take ((hi.getD s.length).toNat-(lo.getD 0).toNat)))else none
 | .vptr cs off=>ar.bind fun a=>if a.2=1∧lo=none∧hi=none∧off+a.1≤cs.length∧0<a.1∧a.1≤65536 then some (.lits 1 ((cs.drop off).take a.1))else none
 | _=>none
def Cs (st:Store) (z:Nat) (x:PV) (ys:List PV):Option (PV×Store) :=
 match x with
 | .nils=>if 0<z∧ys.length≤2147483648 then (if ys.length=0 then some (.nils,st)else some (.ref st.next 0 0 ys.length,st.new (.arr 0 z ys)))else none
 | .ref id gen s n=>(st.arr? id gen).bind fun q =>
   if s+n≤q.2.length∧q.1=z∧n+ys.length≤2147483648 then
    if s+n+ys.length≤q.2.length then
     some (.ref id gen s (n+ys.length),st.set id (.arr gen z (q.2.take (s+n)++ys++q.2.drop (s+n+ys.length))))
    else some (.ref id (gen+1) 0 (n+ys.length),st.set id (.arr (gen+1) z ((q.2.drop s).take n++ys)))
   else none
 | _=>none
def Ge (P:Program) (k:TypeId):Option Nat :=
 if P.keyType k=true∧P.keyTypeAt 2 k=true∧P.tiled 2 k=true∧0<P.types.size then
  match P.underlying k with
  | some (.struct fs)=>if P.cellsOf k=fs.size∧(fs.toList.zipIdx.all fun (f,i)=>f.offset==i&&P.cellsOf f.type==1&&ER P f.type==some .i64)=true then some fs.size else none
  | some (.array n e)=>if P.cellsOf k=n∧P.cellsOf e=1∧ER P e=some .i64 then some n else none
  | _=>none
 else none
def AY (P:Program) (t:TypeId):Option (MK×PV) :=
 match P.underlying t with
 | some (.map k e)=>match (P.info? e).bind (·.zero)with
  | some z=>match P.underlying k with
   | some (.int k)=>some (.int k,Bh z)
   | some .string=>some (.str,Bh z)
   | some .bool=>some (.bool,Bh z)
   | _=>(Ge P k).map fun n=>(.ints n,Bh z)
  | none=>none
 | _=>none
def GI:List PV→List PV→Bool
 | [],[]=>true
 | .int k a::l,.int k' b::m=>decide (k=k')&&a==b&&GI l m
 | _,_=>false
def Dx:PV→PV→Bool
 | .int k a,.int k' b=>decide (k=k')&&a==b
 | .str a,.str b=>a==b
 | .bool a,.bool b=>a==b
 | .agg l,.agg m=>GI l m
 | _,_=>false
def BY:List (PV×PV)→PV→Option PV
 | [],_=>none
 | e::es,k=>if Dx k e.1=true then some e.2 else BY es k
def CF:List (PV×PV)→PV→PV→List (PV×PV)
 | [],k,v => [(k,v)]
 | e::es,k,v=>if Dx k e.1=true then (k,v)::es else e::CF es k v
def IK (st:Store) (ty:Option (MK×PV)) (m k v:PV):Option Store :=
 match m with
 | .mref id gen=>match st.obj id with
  | some (.map g mk es)=>if gen=g∧ty.map (·.1)=some mk∧BE mk k=true then some (st.set id (.map g mk (CF es k v)))else none
  | _=>none
 | _=>none
def Ny:List (PV×PV)→PV→Nat
 | [],_=>0
 | e::es,k=>if Dx k e.1=true then 0 else Ny es k+1
def Ee (st:Store) (ty:Option (MK×PV)) (m k:PV):Option (PV×Store) :=
 ty.bind fun (mk,z)=>match m with
 | .mref id gen=>match st.obj id with
  | some (.map g mk' es)=>if gen=g∧mk'=mk∧BE mk' k=true then some (.tuple [(BY es k).getD z,.int .i64 (Ny es k)],st.set id (.map g mk' (CF es k ((BY es k).getD z))))else none
  | _=>none
 | _=>none
def FI (st:Store) (m s x:PV):Option Store :=
 match m,s with
 | .mref id gen,.int _ n=>match st.obj id with
  | some (.map g mk es)=>if gen=g∧0≤n then (es[n.toNat]?).map fun e=>st.set id (.map g mk (es.set n.toNat (e.1,x)))else none
  | _=>none
 | _,_=>none
def CK (st:Store) (ty:Option (MK×PV)) (m k:PV) (ok:Bool):Option PV :=
 ty.bind fun (mk,z)=>if BE mk k=true then (match m with
  | .nilm=>some (if ok then .tuple [z,.bool false]else z)
  | .mref id gen=>match st.obj id with
   | some (.map g mk' es)=>if gen=g∧mk'=mk then (match BY es k with
    | some v=>some (if ok then .tuple [v,.bool true]else v)
    | none=>some (if ok then .tuple [z,.bool false]else z))else none
   | _=>none
  | _=>none)else none
def G5 (st:Store) (t:Option (MK×PV)) (m:PV):Option Int :=
 t.bind fun _=>match m with
  | .nilm=>some 0
  | .mref id gen=>match st.obj id with
   | some (.map g _ es)=>if gen=g then some es.length else none
   | _=>none
  | _=>none
def ET (st:Store) (t:Option (MK×PV)) (m:PV):Option (PV×Store) :=
 t.bind fun _=>match m with
  | .nilm=>some (.iter st.next 0,st.new (.it none 0 []))
  | .mref id gen=>match st.obj id with
   | some (.map g _ es)=>if gen=g then some (.iter st.next 0,st.new (.it (some (id,gen)) es.length []))else none
   | _=>none
  | _=>none
def mapEntry (st:Store) (x:PV):Option PV :=
 match x with
 | .iter id 0=>match st.obj id with
  | some (.it (some (m,g)) n seen)=>match st.obj m with
   | some (.map g' _ es)=>if g=g'∧es.length=n then (seen.getLast?).bind fun i=>(es[i]?).map fun e=>.tuple [e.1,e.2]else none
   | _=>none
  | _=>none
 | _=>none
def Ef (st:Store) (x:PV) (K:PV→Store→Prop):Prop :=
 match x with
 | .iter id 0=>match st.obj id with
  | some (.it none _ _)=>K (.tuple [.bool false]) st
  | some (.it (some (m,g)) n seen)=>match st.obj m with
   | some (.map g' _ es)=>g=g'∧es.length=n∧(seen.length=n→K (.tuple [.bool false]) st) ∧
     (∀ i k v,es[i]?=some (k,v)→i ∉ seen→K (.tuple [.bool true,k,v]) (st.set id (.it (some (m,g)) n (seen ++ [i]))))
   | _=>False
  | _=>False
 | _=>False
def PV.isStr:PV→Bool
 | .str _=>true
 | _=>false
def Rf (st:Store) (z:Nat) (x y:PV):Option (Nat×Store) :=
 match x with
 | .ref id gen s n=>(st.arr? id gen).bind fun q=>if s+n≤q.2.length∧q.1=z∧0<z∧y.isStr=false then (Cj st z y).bind fun ys=>some (min ys.length n,st.set id (.arr gen z (q.2.take s++ys.take (min ys.length n)++q.2.drop (s+min ys.length n))))else none
 | _=>none
def Cw (op:BinOp) (k:IntKind) (x y:Int):Option Int :=
 let a:=BitVec.ofInt k.bits x
 let b:=BitVec.ofInt k.bits y
 match op with
 | .and=>some (k.wrap (a &&& b).toNat)
 | .or=>some (k.wrap (a ||| b).toNat)
 | .xor=>some (k.wrap (a ^^^ b).toNat)
 | .andNot=>some (k.wrap (a &&& ~~~b).toNat)
 | _=>none
def GQ (op:BinOp) (k:IntKind) (a b:Int):Option PV :=
 match op with
 | .add=>some (.int k (k.wrap (a+b)))
 | .sub=>some (.int k (k.wrap (a-b)))
 | .mul=>some (.int k (k.wrap (a*b)))
 | .quo=>if b=0 then none else some (.int k (k.wrap (a.tdiv b)))
 | .rem=>if b=0 then none else some (.int k (a.tmod b))
 | .and | .or | .xor | .andNot=>(Cw op k a b).map (.int k)
 | .eql=>some (.bool (decide (a=b)))
 | .neq=>some (.bool (decide (¬a=b)))
 | .lss=>some (.bool (decide (a<b)))
 | .leq=>some (.bool (decide (a≤b)))
 | .gtr=>some (.bool (decide (b<a)))
 | .geq=>some (.bool (decide (b≤a)))
 | _=>none
def Pl (op:BinOp) (k:IntKind) (a b:Int):Option PV :=
 match op with
 | .shl=>if b<0 then none else some (.int k (k.wrap (a*2 ^ (min b.toNat k.bits))))
 | .shr=>if b<0 then none else some (.int k (a.fdiv (2 ^ (min b.toNat k.bits))))
 | _=>none
def Ab0 (op:BinOp) (a b:List UInt8):Option PV :=
 match op with
 | .add=>if a.length+b.length≤2147483648 then some (.str (a++b))else none
 | .eql=>some (.bool (decide (a=b)))
 | .neq=>some (.bool (decide (¬a=b)))
 | .lss=>some (.bool (Op.bytesLess a b))
 | .leq=>some (.bool (Op.bytesLess a b||decide (a=b)))
 | .gtr=>some (.bool !(Op.bytesLess a b||decide (a=b)))
 | .geq=>some (.bool !(Op.bytesLess a b))
 | _=>none
def FJ (op:BinOp) (ok r:Bool):Option PV :=
 match op with
 | .eql=>if ok=true then some (.bool r)else none
 | .neq=>if ok=true then some (.bool (!r))else none
 | _=>none
def GR (op:BinOp) (k k':IntKind) (a b:Int):Option PV :=
 match op with
 | .shl=>Pl .shl k a b
 | .shr=>Pl .shr k a b
 | op=>if k=k' then GQ op k a b else none
def Lu (P:Program) (t:TypeId) (a b:PV):Option Bool :=
 match P.underlying t,a,b with
 | some (.int _),.int k x,.int k' y=>if k=k' then some (x==y)else none
 | some .bool,.bool x,.bool y=>some (x==y)
 | _,_,_=>none
def Rg (P:Program) (l m:List PV):List Field→Option Bool
 | []=>some true
 | f :: fs => if f.name = "_" then none else match Bu P f.type, l[f.offset]?, m[f.offset]? with
  | some (_,false),some a,some b=>(Lu P f.type a b).bind fun x=>(Rg P l m fs).map fun y=>x&&y
  | _,_,_=>none
def LL (P:Program) (e:TypeId):List PV→List PV→Option Bool
 | [],[]=>some true
 | a::l,b::m=>(Lu P e a b).bind fun x=>(LL P e l m).map fun y=>x&&y
 | _,_=>none
def Aa2 (P:Program) (l m:List PV) (t:TypeId):Option Bool :=
 match P.underlying t with
 | some (.array n e)=>if P.cellsOf e=1∧Bu P e=some (1,false)∧(P.info? e).isSome=true∧l.length=n then LL P e l m else none
 | _=>none
def LM (P:Program) (t:TypeId):Bool:=match P.underlying t with | some (.struct _)=>true | _=>false
def BJ (P:Program) (op:BinOp) (t:TypeId) (x y:PV):Option PV :=
 match x,y with
 | .int k a,.int k' b=>GR op k k' a b
 | .str a,.str b=>Ab0 op a b
 | .bool a,.bool b=>FJ op (GZ P t) (a==b)
 | .nils,.nils=>FJ op (Ad P t != 0) true
 | .lits _ (_::_),.nils=>FJ op (Ad P t != 0) false
 | .agg l,.agg m=>if P.stoodInHeld t=false∧P.eqGuardType P.depth t=false then (if LM P t=true then Rg P l m (P.fieldsOf t).toList else Aa2 P l m t).bind fun r=>FJ op true r else none
 | _,_=>none
def unP (op:UnOp) (x:PV):Option PV :=
 match op,x with
 | .neg,.int k n=>some (.int k (k.wrap (0-n)))
 | .not,.bool b=>some (.bool (!b))
 | .xor,.int k n=>(Cw .xor k (if k.signed then -1 else k.max) n).map (.int k)
 | _,_=>none
def N0 (P:Program) (src dst:TypeId) (x:PV):Option PV :=
 match x with
 | .int _ n=>(ER P dst).bind fun k=>(ER P src).bind fun _=>some (.int k (k.wrap n))
 | .str s=>if AT P src=true∧AT P dst=true then some (.str s)else none
 | _=>none
def EU (place:Nat→Option (Nat×Nat)) (cells:List PV):List (Nat×PV)→Option (List PV)
 | []=>some cells
 | (i,v)::rest =>
  match place i with
  | none=>none
  | some (off,size)=>if v.cells.length=size∧off+size≤cells.length∧0<size then EU place (Dr cells off v.cells) rest else none
def PV.isAgg:PV→Bool
 | .agg _=>true
 | _=>false
def Cf (P:Program) (t:TypeId):Bool :=
 (AD P t).isAgg &&
 match P.underlying t with
 | some (.struct fs)=>fs.toList.all fun f=>(P.info? f.type).isSome
 | some (.array _ e)=>(P.info? e).isSome
 | _=>false
def Ko (P:Program) (t:TypeId) (parts:List (Nat×PV)):Option PV :=
 if Cf P t=true then match BH P t with
 | some (_,z)=>(EU (fun i=>some (i*z,z)) (AD P t).cells parts).map .agg
 | none=>(EU (fun i=>(Bc P t i).map fun (o,z,_)=>(o,z)) (AD P t).cells parts).map .agg
 else none
def Cl (z:Nat) (l:List PV):List (Nat×PV)→Option (List PV)
 | []=>some l
 | (i,v)::rest=>if i<l.length∧v.cells.length=z then Cl z (l.set i v) rest else none
abbrev Tab:=Nat→List PV→Store→Option (PV×Store)
abbrev Fk:=List PV→Store→(Bool→Store→Prop)→Prop
structure Cfg where
 P : Program
 tab : Tab
 muts : Nat→Bool
 quiet : Nat→Bool
 frz : Nat→Bool
 num : Nat→Nat
 yl : Option (Nat×Fk)
 dep : Nat
 rnd : Bool
 /-- Looks at objects alone, and changes none. -/
 calm : Nat→Bool
mutual
def PV.pur:PV→Bool
 | .bad=>false
 | .ptr _ _ _ _=>false
 | .ref _ _ _ _=>false
 | .mref _ _=>false
 | .iter _ _=>false
 | .vptr cs _=>AN cs
 | .lits _ l=>AN l
 | .func _ a b=>AN a&&AN b
 | .iface _ v=>v.pur
 | .agg l=>AN l
 | .tuple l=>AN l
 | _=>true
def AN:List PV→Bool
 | []=>true
 | p::l=>p.pur&&AN l
end
def rdC (st:Store):PV→Option PV
 | .ref id gen s n=>(st.arr? id gen).bind fun q=>if s+n≤q.2.length∧AN q.2=true then some (.lits q.1 ((q.2.drop s).take n))else none
 | p=>if p.pur=true then some p else none
def rdL (st:Store):List PV→Option (List PV)
 | []=>some []
 | c::l=>(rdC st c).bind fun d=>(rdL st l).map fun ds=>d::ds
def rdP (st:Store):PV→Option PV
 | .agg cs=>(rdL st cs).bind fun ds=>if ds.all PV.isCell=true then some (.agg ds)else none
 | p=>rdC st p
def BZ (st:Store):List PV→Option (List PV)
 | []=>some []
 | c::l=>(rdP st c).bind fun d=>(BZ st l).map fun ds=>d::ds
def Aa3 (P:Program):Nat→TypeId→Nat→List (Nat×Nat)
 | 0,_,_ => []
 | k+1,t,b=>match P.underlying t with
  | some (.slice _) => [(b,Ad P t)]
  | some (.struct fs)=>fs.toList.flatMap fun f=>Aa3 P k f.type (b+f.offset)
  | _ => []
def Bt (P:Program) (t:TypeId):List (Nat×Nat):=Aa3 P 3 t 0
def nrm1 (z:Option Nat) (p:PV):PV:=match p with | .nils=>(match z with | some z=>.lits z [] | none=>.nils) | p=>p
def Jq (m:List (Nat×Nat)):Nat→List PV→List PV
 | _,[] => []
 | i,c::l=>nrm1 (m.lookup i) c::Jq m (i+1) l
def nrm (m:List (Nat×Nat)) (p:PV):PV:=match p with | .agg cs=>.agg (Jq m 0 cs) | p=>nrm1 (m.lookup 0) p
def nrmAll (P:Program):List TypeId→List PV→List PV
 | t::ts,p::l=>nrm (Bt P t) p::nrmAll P ts l
 | _,l=>l
def idC:PV→List Nat
 | .ref id _ _ _ => [id]
 | .agg cs=>cs.flatMap fun c=>match c with | .ref id _ _ _ => [id] | _ => []
 | _ => []
def DL (l:List PV):List Nat:=l.flatMap idC
def Store.only (st:Store) (ids:List Nat):Store:=⟨fun i=>if ids.contains i=true then st.obj i else none,st.next⟩
def Store.without (st:Store) (ids:List Nat):Store:=⟨fun i=>if ids.contains i=true then none else st.obj i,st.next⟩
def Yh (P:Program) (st:Store) (t:TypeId) (x:PV):Option (PV×Store) :=
 match x with
 | .ptr id gen idx off=>(st.arr? id gen).bind fun q=>(BH P t).bind fun a=>if a.2=1∧idx<q.2.length∧AN q.2=true∧off+a.1≤(nth q.2 idx).cells.length∧0<a.1∧a.1≤65536 then some (.lits 1 (((nth q.2 idx).cells.drop off).take a.1),st.without [id])else none
 | _=>none
def sealC (st:Store) (c:PV):PV:=match c with
 | .ref id g s n=>(rdC st (.ref id g s n)).getD (.ref id g s n)
 | c=>c
def FK (st:Store) (e:PV):PV:=match e with
 | .agg cs=>.agg (cs.map (sealC st))
 | e=>sealC st e
def Rh (st:Store) (o:IObj):IObj:=match o with
 | .arr g z es=>.arr g z (es.map (FK st))
 | o=>o
def Cm (o:IObj):Option IObj:=match o with
 | .arr g z _=>some (.arr (g+1) z [])
 | _=>none
def Store.seal (st:Store) (ids:List Nat):Store:=⟨fun i=>if ids.contains i=true then (st.obj i).bind Cm else (st.obj i).map (Rh (st.only ids)),st.next⟩
def Store.again (st:Store) (id:Nat):Store:=⟨Aa st.obj id ((st.obj id).bind Cm),st.next⟩
def Store.past (st:Store) (k:Nat):Store:=⟨fun i=>if i<k then none else st.obj i,st.next⟩
def PV.isInt1:PV→Bool
 | .int ..=>true
 | _=>false
def PV.isInt:PV→Bool
 | .int ..=>true
 | .agg cs=>cs.all PV.isInt1
 | _=>false
def GJ:IObj→Bool
 | .arr _ z es=>decide (z≤2)&&es.all PV.isInt
 | _=>false
def Store.hard (st:Store):Store:=⟨fun i=>(st.obj i).bind fun o=>if GJ o=true then none else some o,st.next⟩
def LN (st:Store) (x y:PV):Bool :=
 (match y with | .lits _ l=>l.all PV.isInt | _=>false)&&match x with | .ref id gen _ _=>(match st.arr? id gen with | some q=>decide (q.1≤2)&&q.2.all PV.isInt | none=>false) | _=>false
def N1 (st:Store) (a v:PV):Bool :=
 v.isInt1 && match a with | .ptr id gen _ _=>(match st.arr? id gen with | some q=>decide (q.1≤2)&&q.2.all PV.isInt | none=>false) | _=>false
def N2 (k:Nat) (a:PV):Bool:=match a with | .ptr id _ _ _=>id==k-1 | _=>false
def Di:Operand→Nat
 | .tmp n=>n
 | _=>0
def Cfg.see (X:Cfg) (d:Nat) (st:Store):Store:=if X.frz d=true then⟨fun _=>none,0⟩else if X.frz (600000+d)=true then st.past (X.num d)else if X.frz (700000+d)=true then st.hard else st
def DY (st st':Store):Prop:=∀id gen q,st.arr? id gen=some q→st'.arr? id gen=some q
theorem N3 {st st':Store} (h:DY st st') {z:Nat} {sb:Bool} {p:PV} {n:Int} (hq:Jp st z sb p=some n):Jp st' z sb p=some n:=by
 unfold Jp at hq ⊢
 split at hq
 ·exact hq
 ·exact hq
 ·simp only[Option.bind_eq_some_iff]at hq ⊢
  obtain ⟨r,h1,h2⟩:=hq
  exact ⟨r,h _ _ _ h1,h2⟩
 ·exact hq
 ·cases hq
theorem HX {X:Cfg} {d:Nat} {st:Store}:DY (X.see d st) st:=by
 intro i g q h
 unfold Cfg.see at h
 split at h
 ·simp [Store.arr?]at h
 ·split at h
  ·unfold Store.arr? Store.past at h
   unfold Store.arr?
   dsimp only at h
   by_cases c:i<X.num d
   ·rw [if_pos c]at h;cases h
   ·rw [if_neg c]at h;exact h
  ·split at h
   ·unfold Store.arr? Store.hard at h
    unfold Store.arr?
    dsimp only at h
    cases ho:st.obj i with
    | none=>rw[ho]at h;cases h
    | some o =>
     rw [ho]at h
     simp only[Option.bind_some]at h
     by_cases c:GJ o=true
     ·rw [if_pos c]at h;cases h
     ·rw [if_neg c]at h;exact h
   ·exact h
theorem IL {st st':Store} (h:DY st st') {z:Nat} {ag:Bool} {p q:PV} (hq:Dh st z ag p=some q):Dh st' z ag p=some q:=by
 unfold Dh at hq ⊢
 split at hq
 ·exact hq
 ·simp only[Option.bind_eq_some_iff]at hq ⊢
  obtain ⟨r,h1,h2⟩:=hq
  exact ⟨r,h _ _ _ h1,h2⟩
 ·cases hq
theorem G7 {st st':Store} (h:DY st st') {o:Nat} {p q:PV} (hq:CX st p o=some q):CX st' p o=some q:=by
 unfold CX at hq ⊢
 split at hq
 ·exact hq
 ·simp only[Option.map_eq_some_iff]at hq ⊢
  obtain ⟨r,h1,h2⟩:=hq
  exact ⟨r,h _ _ _ h1,h2⟩
 ·cases hq
theorem G8 {P:Program} {st st':Store} (h:DY st st') {t:TypeId} {n:Int} {p q:PV} (hq:Cv P st t p n=some q):Cv P st' t p n=some q:=by
 unfold Cv at hq ⊢
 split at hq
 ·exact hq
 ·simp only[Option.bind_eq_some_iff]at hq ⊢
  obtain ⟨r,h1,h2⟩:=hq
  exact ⟨r,h _ _ _ h1,h2⟩
 ·exact hq
 ·simp only[Option.bind_eq_some_iff]at hq ⊢
  obtain ⟨r,h1,h2⟩:=hq
  exact ⟨r,h _ _ _ h1,h2⟩
 ·cases hq
theorem Ri {st st':Store} (h:DY st st') {z:Nat} {sb:Bool} {ar:Option (Nat×Nat)} {lo hi:Option Int} {p q:PV} (hq:Ck st z sb ar p lo hi=some q):Ck st' z sb ar p lo hi=some q:=by
 unfold Ck at hq ⊢
 split at hq
 ·exact hq
 ·exact hq
 ·simp only[Option.bind_eq_some_iff]at hq ⊢
  obtain ⟨r,h1,h2⟩:=hq
  exact ⟨r,h _ _ _ h1,h2⟩
 ·exact hq
 ·exact hq
 ·cases hq
theorem Yi {X:Cfg} {d z:Nat} {st:Store} {ag:Bool} {p q:PV} (h:Dh (X.see d st) z ag p=some q):Dh st z ag p=some q:=IL HX h
theorem Ur {X:Cfg} {d:Nat} {P:Program} {t:TypeId} {n:Int} {st:Store} {p q:PV} (h:Cv P (X.see d st) t p n=some q):Cv P st t p n=some q:=G8 HX h
theorem Us {X:Cfg} {d z:Nat} {sb:Bool} {ar:Option (Nat×Nat)} {lo hi:Option Int} {st:Store} {p q:PV} (h:Ck (X.see d st) z sb ar p lo hi=some q):Ck st z sb ar p lo hi=some q:=Ri HX h
theorem Ut {X:Cfg} {d o:Nat} {st:Store} {p q:PV} (h:CX (X.see d st) p o=some q):CX st p o=some q:=G7 HX h
def Pm (X:Cfg) (d:Nat) (ts:List TypeId):List TypeId:=if X.frz (400000+d)=true then []else ts
def Dy (X:Cfg) (d:Nat) (f:PV) (ts:List TypeId) (args:List PV) (st:Store):Option (PV×Store) :=
 match f with
 | .func (.func f) first captured =>
  if X.frz d=true then
   if X.muts d=true∧X.num d≠0 then (if (DL (first++nrmAll X.P ts args++captured)).all (fun i=>i==X.num d-1)=true then (BZ (st.only [X.num d-1]) (first++nrmAll X.P ts args++captured)).bind fun as=>X.tab f as (st.again (X.num d-1))else none)
   else (BZ (st.only (DL (first++nrmAll X.P ts args++captured))) (first++nrmAll X.P ts args++captured)).bind fun as=>X.tab f as (if X.num d=0 then st.without (DL (first++nrmAll X.P ts args++captured))else st.seal (DL (first++nrmAll X.P ts args++captured)))
  else if X.muts d=true∧(AN (first++nrmAll X.P ts args++captured)=false∨(X.frz (1200000+d)=true∧X.quiet f=false))then none
  else X.tab f (first++nrmAll X.P ts args++captured) st
 | _=>none
def Jr (P:Program) (t:TypeId) (name:String):Option (Nat×Bool×TypeId) :=
 match P.info? t,P.underlying t with
 | some i,some (.pointer e)=>(i.methods.find? (·.name==name)).bind fun m=>if m.path.isEmpty=true then m.func.map fun (f,pr)=>(f,pr,e)else none
 | _,_=>none
def cU (P:Program) (st:Store) (x:PV) (name:String):Option (Nat×PV) :=
 match x with
 | .iface t v=>(Jr P t name).bind fun q=>if q.2.1=true then some (q.1,v)else (Bu P q.2.2).bind fun r=>(Dh st r.1 r.2 v).map fun r=>(q.1,r)
 | _=>none
def Fm (mx:Bool) (x y:PV):Option PV :=
 match x,y with
 | .int k x,.int k' y=>if k=k' then some (.int k (if mx then (if x<y then y else x)else (if y<x then y else x)))else none
 | _,_=>none
def Bd (X:Cfg) (d:Nat) (b:Builtin) (ts:List TypeId) (args:List PV) (st:Store):Option (PV×Store) :=
 match b,ts,args with
 | .len,[t],[x]=>(match AY X.P t with | some q=>G5 st (some q) x | none=>Jp (X.see d st) (Ad X.P t) (AT X.P t) x).map fun n=>(.int .i64 n,st)
 | .append,[t,u],[x,y]=>if (X.num d=0∨Ek (X.num d) x y=true)∧(Ad X.P u≠0∨AT X.P u=true)∧(X.frz (700000+d)=true→X.num d=0∧LN st x y=true)then (Cj st (Ad X.P t) y).bind fun ys=>Cs st (Ad X.P t) x ys else none
 | .copy,[t,u],[x,y]=>(Rf st (Ad X.P t) x y).map fun (n,st')=>(.int .i64 n,st')
 | .min,_,[x,y]=>(Fm false x y).map fun v=>(v,st)
 | .max,_,[x,y]=>(Fm true x y).map fun v=>(v,st)
 | _,_,_=>none
def iop (X:Cfg) (d:Nat) (op:Op) (ρ:Operand→PV) (st:Store):Option (PV×Store) :=
 match op with
 | .move x | .assign x=>some (ρ x,st)
 | .pick c a b=>match ρ c with | .bool v=>some (if v then ρ a else ρ b,st) | _=>none
 | .alloc t=>if 0<X.P.cellsOf t∧(AD X.P t).cells.length=X.P.cellsOf t then (if X.num d=0 then some (.ptr st.next 0 0 0,st.new (.arr 0 (X.P.cellsOf t) [AD X.P t]))else st.reP (X.num d) (X.P.cellsOf t) (AD X.P t))else none
 | .box _ x=>if 0<(ρ x).cells.length then (if X.muts d then some (.ptr st.next 0 0 0,st.new (.arr 0 (ρ x).cells.length [ρ x]))else some (.vptr (ρ x).cells 0,st))else none
 | .build t parts=>(Ko X.P t (parts.toList.map fun (i,x)=>(i,ρ x))).map fun v=>(v,st)
 | .buildSlice t len parts =>
  if 0<Ad X.P t∧len*Ad X.P t≤16777216 then
   (Cl (Ad X.P t) (List.replicate len (AD X.P (BR X.P t))) (parts.toList.map fun (i,x)=>(i,ρ x))).bind fun l =>
    if X.muts d then (if X.num d=0 then some (.ref st.next 0 0 len,st.new (.arr 0 (Ad X.P t) l))else st.re (X.num d) (Ad X.P t) l len)else some (.lits (Ad X.P t) l,st)
  else none
 | .load t x=>(Bu X.P t).bind fun (z,ag)=>(Dh (X.see d st) z ag (ρ x)).map fun v=>(v,st)
 | .store t a x=>if (X.frz (800000+Di a)=true∧N1 st (ρ a) (ρ x)=false)∨(X.frz (900000+Di a)=true∧N2 (X.num (Di a)) (ρ a)=false)then none else (ES st (X.P.cellsOf t) (ρ a) (ρ x)).map fun st'=>(.bad,st')
 | .nilCheck x=>match ρ x with | .vptr c o=>some (.vptr c o,st) | .ptr i g x o=>((X.see d st).arr? i g).map fun _=>(.ptr i g x o,st) | _=>none
 | .binOp op t x y _=>(BJ X.P op t (ρ x) (ρ y)).map fun v=>(v,st)
 | .unOp op _ x=>(unP op (ρ x)).map fun v=>(v,st)
 | .convert s t x=>(N0 X.P s t (ρ x)).map fun v=>(v,st)
 | .makeFunc fn first captured=>some (.func fn (first.toList.map ρ) (captured.toList.map ρ),st)
 | .makeMap t r=>(AY X.P t).bind fun (mk,_)=>(match r with | none=>some 0 | some r=>CY (ρ r)).map fun _=>(.mref st.next 0,st.new (.map 0 mk []))
 | .insert t m k v | .mapUpdate t m k v=>(IK st (AY X.P t) (ρ m) (ρ k) (ρ v)).map fun st'=>(.bad,st')
 | .mapEntry t m k=>Ee st (AY X.P t) (ρ m) (ρ k)
 | .entryStore _ m s x=>(FI st (ρ m) (ρ s) (ρ x)).map fun st'=>(.bad,st')
 | .lookup t m k ok=>(CK st (AY X.P t) (ρ m) (ρ k) ok).map fun v=>(v,st)
 | .range t m=>ET st (AY X.P t) (ρ m)
 | .entry x=>(mapEntry st (ρ x)).map fun v=>(v,st)
 | .makeSlice t l c =>
  match ρ l,ρ c with
  | .int .i64 n,.int .i64 m=>if 0≤n∧n≤m∧m≤4294967296∧0<Ad X.P t then (if X.num d=0 then (if X.frz d=true then some (.lits (Ad X.P t) (List.replicate n.toNat (AD X.P (BR X.P t))),st)else some (.ref st.next 0 0 n.toNat,st.new (.arr 0 (Ad X.P t) (List.replicate n.toNat (AD X.P (BR X.P t))))))else st.re (X.num d) (Ad X.P t) (List.replicate n.toNat (AD X.P (BR X.P t))) n.toNat)else none
  | _,_=>none
 | .slice t x lo hi none =>
  if X.muts d=true then (match lo,hi with | none,none=>Yh X.P st t (ρ x) | _,_=>none)else
  match lo.map (CY∘ρ),hi.map (CY∘ρ)with
  | some none,_ | _,some none=>none
  | l,h=>(Ck (X.see d st) (Ad X.P t) (AT X.P t) (BH X.P t) (ρ x) (l.bind id) (h.bind id)).map fun v=>(v,st)
 | .fieldAddr t x f=>(Bc X.P t f).bind fun (o,z,_)=>if 0<z then (CX (X.see d st) (ρ x) o).map fun v=>(v,st)else none
 | .field t x f=>match ρ x with | .agg cs=>(Bc X.P t f).bind fun (o,_,u)=>(Bu X.P u).bind fun (z,ag)=>(CI cs o z ag).map fun v=>(v,st) | _=>none
 | .indexAddr t x i=>match ρ i with | .int _ n=>(Cv X.P (X.see d st) t (ρ x) n).map fun v=>(v,st) | _=>none
 | .index t x i=>match ρ i with | .int _ n=>(IJ X.P t (ρ x) n).map fun v=>(v,st) | _=>none
 | .extract x i=>match ρ x with | .tuple vs=>(vs[i]?).map fun v=>(v,st) | _=>none
 | .call c =>
  match c.callee with
  | .value f=>Dy X d (ρ f) (Pm X d c.argTypes.toList) (c.args.toList.map ρ) st
  | .builtin b=>Bd X d b c.argTypes.toList (c.args.toList.map ρ) st
  | .invoke x m=>(cU X.P st (ρ x) m).bind fun q=>Dy X d (.func (.func q.1) [q.2] []) (Pm X d c.argTypes.toList) (c.args.toList.map ρ) st
 | .makeInterface t x=>if (Jo X.P t)=false∧(X.P.underlying t).isSome=true then some (.iface t (ρ x),st)else none
 | .typeAssert x _ t false=>match ρ x with | .iface t' v=>if t'=t∧(Jo X.P t)=false∧(X.P.underlying t).isSome=true then some (v,st)else none | _=>none
 | _=>none
end Sim
