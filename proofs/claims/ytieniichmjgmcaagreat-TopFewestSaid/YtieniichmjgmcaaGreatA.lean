import Derived.Below
import Derived.Tactics
import Derived.Laws.NewBlocks
import Derived.Scope
import Derived.OrdersIn
import Derived.TacticsIn
import Derived.Laws.Entries
import Derived.Laws.StructEq
import Derived.Laws.CopyRow
import Derived.RangeFuncLeaves
import Derived.RangeFuncRecord
import Derived.MapKept
import Derived.Maps.RangeRun
import Derived.ChangeKeysEq
import Derived.Laws.IdiomCopy
set_option linter.defProp false
set_option linter.unusedSectionVars false
set_option linter.unusedSimpArgs false
set_option linter.unusedVariables false
namespace Go.Fw
open Go Go.RowKit
section
variable {id:Nat} {σ:Type}
def eZ:=@List.take_succ_eq_append_getElem
def QV:=@List.length_set
def TF:=@List.getElem_mem
def VK:=@Int.toNat_natCast
def gV:=@List.mem_cons_of_mem
def nP:=@List.append_assoc
def gW:=@List.map_append
def YG:=@Nat.le_refl
def zL8:=@List.getElem?_eq_getElem
def wS:=@Nat.mul_le_mul_right
def QW:=@List.take_length
def QX:=@List.length_take
def WK:=@List.getElem_of_mem
def jY:=@Array.getD_eq_getD_getElem?
def O1:=@Nat.mul_zero
def P9:=@List.map_cons
def TG:=@Option.some.inj
def aD:=@Nat.eq_zero_or_pos
def rC:=@List.getD_eq_getElem?_getD
def SK:=@List.mem_cons
def gX:=@List.Pairwise.filter
def rD:=@List.getElem?_append_left
def fA:=@List.filter_append
def fC:=@List.length_append
def aR:=@Bool.and_eq_true
def aF:=@List.range_succ
def aS:=@List.foldl_cons
def rE:=@List.length_filter_le
def jZ:=@List.mem_singleton
def gY:=@List.length_cons
def AaG:=@List.getElem?_append_right
def WL:=@Nat.add_mul
def YH:=@Nat.add_zero
def nU:=@List.pairwise_map
def rF:=@List.getElem?_take
def aG:=@Nat.lt_or_ge
def kA:=@List.append_nil
def nV:=@List.cons_append
def AcX:=@List.perm_ext_iff_of_nodup
def aT:=@Nat.zero_add
def nW:=@List.length_map
def AaH:=@List.getElem?_toArray
def sP:=@List.Pairwise.imp
def gZ:=@Nat.le_trans
def hM:=@List.mem_map
def rG:=@List.mem_append
def AfV:=@Classical.byContradiction
def AfW:=@Array.getElem?_eq_getElem
def AaI:=@List.map_congr_left
def sQ:=@List.nodup_cons
def AaJ:=@Bool.false_eq_true
def wT:=@Option.getD_some
def AaK:=@List.getElem?_map
def AcY:=@List.mem_map_of_mem
def AkW:=@List.pairwise_iff_getElem
def AfX:=@List.length_singleton
def AfY:=@Nat.eq_of_beq_eq_true
def AcZ:=@List.pairwise_cons
def AnC:=@Array.getElem?_setIfInBounds
def AfZ:=@List.getElem?_set_ne
def Ad0:=@Option.some.injEq
def Ag0:=@Array.length_toList
def AkX:=@List.getElem?_set_self
def AnD:=@Int.tdiv_eq_ediv_of_nonneg
def AkY:=@List.perm_append_comm
def sR:=@Int.le_refl
def sS:=@Nat.one_mul
def Ag1:=@List.foldl_append
def ArT:=@List.eq_nil_of_length_eq_zero
def AnE:=@List.getElem?_cons_zero
def Ag2:=@List.length_drop
def AnF:=@List.take_of_length_le
def AkZ:=@List.getElem?_drop
def AaL:=@Nat.mul_comm
def Ag3:=@Option.map_some
def Ag4:=@List.mem_filter
def AnG:=@List.Perm.append_left
def AnH:=@Array.getElem?_toList
def ArU:=@List.exists_cons_of_ne_nil
def ArV:=@Int.tmod_eq_emod_of_nonneg
def ArW:=@Int.fdiv_eq_ediv_of_nonneg
def Al0:=@List.getElem_take
def ArX:=@List.drop_eq_getElem_cons
def AaM:=@Nat.mul_one
def Ag5:=@List.Perm.cons
def Al1:=@List.perm_middle
def ArY:=@List.Pairwise.imp_of_mem
def ArZ:=@List.eraseIdx_cons_succ
def Al2:=@Bool.or_eq_true
def AnI:=@List.ext_getElem?
def As0:=@List.filterMap_append
def As1:=@List.getElem?_eq_none
def Ag6:=@Int.lt_or_le
def Ag7:=@Nat.zero_mul
def As2:=@List.take_append_drop
def As3:=@List.mem_of_getElem?
def AnJ:=@Nat.div_eq_of_lt
def AnK:=@List.any_eq_true
def As4:=@List.pairwise_append
def AnL:=@List.filter_cons
def yG:=@Prod.mk.injEq
def yH:=@Nat.add_assoc
def AnM:=@List.nodup_iff_pairwise_ne
def sU:=@Nat.zero_le
def AiA:=@Nat.testBit_two_pow
def Ad1:=@List.cons.injEq
def yI:=@Nat.add_comm
def yJ:=@Int.le_of_lt
def AiB:=@Nat.lt_of_lt_of_le
def AiC:=@Array.foldl_toList
def yK:=@Classical.em
def AiD:=@Int.emod_lt_of_pos
def AnN:=@List.getElem?_cons_succ
def AiE:=@List.getElem_drop
def AnO:=@List.pairwise_lt_range
def AnP:=@Array.getElem?_modify
def AnQ:=@List.length_replicate
def AiF:=@Nat.mul_add_div
def AiG:=@Option.map_none
def Ad2:=@List.map_map
def Ad3:=@Nat.sub_zero
def AiH:=@Int.ediv_nonneg
def AiI:=@Nat.div_add_mod
def AnR:=@List.mem_of_mem_take
def AiJ:=@Int.emod_nonneg
def AiK:=@List.nil_append
def AuF:=@Int.mul_le_mul_of_nonneg_left
def AnS:=@Array.toList_zipIdx
def AnT:=@Int.toNat_of_nonneg
def AiL:=@List.mem_range
def AiM:=@List.foldl_map
def AiN:=@Int.mul_le_mul
def AiO:=@Int.mul_nonneg
def AnU:=@List.set_cons_succ
def AuG:=@Array.extract_eq_self_of_le
def AnV:=@Int.natCast_nonneg
def AuH:=@Array.getElem?_append_left
def AnW:=@List.size_toArray
def AuI:=@Array.mapM_eq_mapM_toList
def Ad4:=@Nat.mod_lt
def AnX:=@List.not_mem_nil
def AiP:=@List.map_nil
def AnY:=@Option.bind_some
def AiQ:=@Nat.succ_mul
def AnZ:=@Nat.mod_eq_of_lt
def Ao0:=@List.ext_getElem
def Ao1:=@Int.ediv_le_self
def Ao2:=@List.filter_map
def Ao3:=@List.Perm.nodup
def Ao4:=@Nat.min_eq_left
def AiR:=@Nat.le_succ
def AiS:=@Int.pow_pos
def Ao5:=@List.foldl_nil
def Ao6:=@List.mapM_cons
def Ao7:=@List.nodup_nil
def Ao8:=@Nat.mul_le_mul
/-! ### Sparse frames -/
abbrev DF:=List (Nat×Value)
def look:DF->Nat->Option Value
 | [],_=>none
 | p :: E,t=>bif Nat.beq p.1 t then some p.2 else look E t
def fresh:DF->Nat->Bool
 | [],_=>true
 | p :: E,t=>bif Nat.beq p.1 t then false else fresh E t
def EnvOk:DF->Act->Prop
 | [],_=>True
 | p :: E,a=>a.tmps[p.1]? = some p.2∧EnvOk E a
structure FrK where
 sz:Nat
 marks:List Nat
 round:Option Nat
def mkM (r:Nat):Deferred:={ target:=.collected r,args:=#[] }
abbrev FrK.defs (n:FrK):List Deferred:=n.marks.map mkM
def WM (n:FrK):Fence:={ fn:=λ_=>True,depth:=none,alive:=false,round:=n.round }
structure Ok (n:FrK) (E:DF) (a:Act):Prop where
 size:a.tmps.size=n.sz
 defers:a.defers=n.defs
 env:EnvOk E a
def ev (E:DF):Operand->Option Value
 | .tmp t=>look E t
 | .const c=>some c
 | .global g=>some (.pointer (some ⟨g,0,none⟩))
 | .func f=>some (.func (.func f) #[] #[])
theorem EnvOk.look {E:DF} {a:Act} (h:EnvOk E a) {t:Nat} {v:Value} (d:look E t=some v):a.tmps[t]? = some v:=by
 induction E with
 | nil=>simp[Fw.look] at d
 | cons p E J=>
  have⟨_,_⟩:=h;simp only[Fw.look] at d
  cases D:Nat.beq p.1 t with
  | true=>simp_all
  | false=>grind
theorem Ok.eval {n:FrK} {E:DF} {a:Act} (h:Ok n E a) {x:Operand} {v:Value} (d:ev E x=some v):a.eval x=v:=by
 cases x with
 | tmp t=>
  have:=h.env.look d;simp only[Act.eval,jY,this,wT]
 | const c=>exact TG d
 | global g=>exact TG d
 | func f=>exact TG d
theorem EnvOk.put {E:DF} {a:Act} (h:EnvOk E a) {d:Nat} (D:fresh E d=true) (v:Value):EnvOk E (a.put (some d) v):=by
 induction E with
 | nil=>trivial
 | cons p E U=>
  have⟨V,O⟩:=h;simp only[fresh] at D
  cases W:Nat.beq p.1 d with
  | true=>rw[W] at D; simp at D
  | false=>
   rw[W] at D;refine⟨?_,U O D⟩;have J:¬d=p.1:=λe=>by rw[e,Nat.beq_refl] at W; exact absurd W (by simp)
   simp only[Act.put,AnC,if_neg J,V]
theorem Ok.put {n:FrK} {E:DF} {a:Act} (h:Ok n E a) {d:Nat} (J:Nat.blt d n.sz=true) (D:fresh E d=true) (v:Value):Ok n ((d,v) :: E) (a.put (some d) v):=by
 refine⟨by simp[Act.put,h.size],by simp[Act.put,h.defers],?_,h.env.put D v⟩;have:d<a.tmps.size:=by rw[h.size]; simp_all
 simp[Act.put,this]
theorem EnvOk.defers {E:DF} {a:Act} (h:EnvOk E a) (d:List Deferred):EnvOk E { a with defers:=d }:=by
 induction E with
 | nil=>trivial
 | cons p E D=>exact⟨h.1,D h.2⟩
def Sub:DF->DF->Prop
 | [],_=>True
 | p :: E',E=>look E p.1=some p.2∧Sub E' E
theorem Ok.sub {n:FrK} {E E':DF} {a:Act} (h:Ok n E a) (d:Sub E' E):Ok n E' a:=by
 refine⟨h.size,h.defers,?_⟩
 induction E' with
 | nil=>trivial
 | cons p E' D=>exact⟨h.env.look d.1,D d.2⟩
abbrev IH:=Nat->Option Obj
def IH.le (I J:IH):Prop:=∀ b o,I b=some o->J b=some o
theorem IH.le.refl (I:IH):I.le I:=λ_ _ h=>h
theorem IH.le.trans {I J K:IH} (h:I.le J) (k:J.le K):I.le K:=λb o x=>k b o (h b o x)
def hp (w:World):IH:=λb=>w.heap[b]?
def IH.disj (I J:IH):Prop:=∀ b,I b=none∨J b=none
theorem IH.disj.mono {I J d D:IH} (h:I.disj J) (hi:d.le I) (O:D.le J):d.disj D:=λb=>by
 rcases h b with h | h
 . left; cases h':d b with
   | none=>rfl
   | some o=>rw[hi b o h'] at h; cases h
 . right; cases h':D b with
   | none=>rfl
   | some o=>rw[O b o h'] at h; cases h
open Classical in
noncomputable def IH.union (I J:IH):IH:=λb=>match I b with | some o=>some o | none=>J b
theorem IH.le_union_left (I J:IH):I.le (I.union J):=λ_ _ h=>by simp[IH.union,h]
theorem IH.le_union_right {I J:IH} (D:I.disj J):J.le (I.union J):=λb _ h=>by
 rcases D b with d | d
 . simp[IH.union,d,h]
 . rw[d] at h; cases h
theorem IH.union_le {I J K:IH} (h:I.le K) (k:J.le K):(I.union J).le K:=λb o x=>by
 simp only[IH.union] at x
 cases hi:I b with
 | some p=>rw[hi] at x; exact h b o (by rw[hi]; exact x)
 | none=>rw[hi] at x; exact k b o x
theorem IH.union_none {I J:IH} {b:Nat} (h:I.union J b≠none):I b≠none∨J b≠none:=by simp only[IH.union] at h;grind
structure HA where
 holds:IH→IH→Prop
 mono:∀ {I J h k:IH},I.le J→h.le k→holds I h→holds J k
def O2:List HA->IH->IH->Prop
 | [],_,_=>True
 | A :: l,I,h=>∃ d D,d.disj D∧d.le h∧D.le h∧A.holds I d∧O2 l I D
theorem LV {l:List HA} {I J h k:IH} (V:I.le J) (Z:h.le k) (O:O2 l I h):O2 l J k:=by
 cases l with
 | nil=>trivial
 | cons A l=>
  obtain ⟨h1,U,hd,d,D,W,O⟩:=O
  refine ⟨h1,U,hd,d.trans Z,D.trans Z,A.mono V (IH.le.refl _) W,?_⟩
  clear W d D hd Z
  induction l generalizing U with
  | nil=>trivial
  | cons B l ih=>
   obtain ⟨h3,h4,a3,a4,a2,hb,a5⟩:=O
   exact ⟨h3,h4,a3,a4,a2,B.mono V (IH.le.refl _) hb,ih _ a5⟩
theorem NN {l m:List HA} {I h:IH}:O2 (l++m) I h↔∃ W U,W.disj U∧W.le h∧U.le h∧O2 l I W∧O2 m I U:=by
 induction l generalizing h with
 | nil=>
  constructor
  . intro Z; exact⟨λ_=>none,h,(λ_=>.inl rfl),(λ_ _ x=>nomatch x),IH.le.refl _,trivial,Z⟩
  . rintro⟨W,U,V,a2,d,_,Z⟩; exact LV (IH.le.refl _) d Z
 | cons A l ih=>
  constructor
  . rintro⟨W,U,V,a2,d,ha,Z⟩;have⟨h3,h4,a3,J,D,a4,a5⟩:=ih.1 Z;refine⟨W.union h3,h4,?_,IH.union_le a2 (J.trans d),D.trans d,⟨W,h3,V.mono (IH.le.refl _) J,IH.le_union_left _ _,IH.le_union_right (V.mono (IH.le.refl _) J),ha,a4⟩,a5⟩;intro b;rcases a3 b with h | h
    . rcases(V.mono (IH.le.refl _) D) b with O | O
      . left; simp[IH.union,h,O]
      . exact .inr O
    . exact .inr h
  . rintro⟨W,U,V,a2,d,⟨h3,h4,a3,J,D,ha,Z⟩,hm⟩;refine⟨h3,h4.union U,?_,J.trans a2,IH.union_le (D.trans a2) d,ha,ih.2 ⟨h4,U,V.mono D (IH.le.refl _),IH.le_union_left _ _,IH.le_union_right (V.mono D (IH.le.refl _)),Z,hm⟩⟩;intro b;rcases a3 b with h | h
    . exact .inl h
    . rcases(V.mono J (IH.le.refl U)) b with O | O
      . exact .inl O
      . right; simp[IH.union,h,O]
structure As5 (w0:World) (M:Nat→Prop) (w:World):Prop where
 os:w.os=w0.os
 tape:w.tape=w0.tape
 output:w.output=w0.output
 drawn:w0.drawn≤w.drawn
 size:w0.heap.size≤w.heap.size
 block:∀ b,b<w0.heap.size→¬M b→w.heap[b]? = w0.heap[b]?
structure Sym (w0:World) (M:Nat→Prop) (I0 I:IH) (l:List HA) (w:World):Prop where
 base:As5 w0 M w
 imm:I.le (hp w)
 new:∀ b,I b≠none→I0 b≠none∨M b∨w0.heap.size≤b
 own:∃ h,O2 l I h∧h.le (hp w)∧I.disj h∧∀ b,h b≠none→M b∨w0.heap.size≤b
variable {w0 w:World} {M:Nat→Prop} {I0 I:IH} {l:List HA}
theorem TH {b:Nat} {o:Obj} (h:hp w b=some o):b<w.heap.size:=by grind[hp]
theorem Ag8 {h:IH} (d:h.le (hp w)) {b:Nat} (D:h b≠none):b<w.heap.size:=by
 cases e:h b with
 | none=>exact absurd e D
 | some o=>exact TH (d b o e)
def pto (b:Nat) (o:Obj):HA where
 holds _ h:=h b=some o
 mono:=λ_ hh h=>hh _ _ h
def GN (b:Nat) (o:Obj):IH:=λk=>if k=b then some o else none
theorem Sym.alloc (h:Sym w0 M I0 I l w) (o:Obj):Sym w0 M I0 I (pto w.heap.size o :: l) (w.alloc o):=by
 have⟨D,hi,Z,k,hs,hk,hd,hm⟩:=h
 have U:∀ (J:IH),J.le (hp w)->J.le (hp (w.alloc o)):=λJ hJ b p e=>by have O:=hJ b p e;have:=TH O;show(w.alloc o).heap[b]? = _;rw[Below.heap_alloc _ _ _ this]; exact O
 refine⟨⟨D.os,D.tape,D.output,D.drawn,gZ D.size (by simp),λb W h2=>?_⟩,U I hi,Z,(GN w.heap.size o).union k,⟨GN w.heap.size o,k,?_,IH.le_union_left _ _,IH.le_union_right ?_,by simp[pto,GN],hs⟩,?_,?_,?_⟩
 . rw[Below.heap_alloc _ _ _ (AiB W D.size)]; exact D.block b W h2
 . intro b;by_cases e:b=w.heap.size
   . right; subst e
     cases O:k w.heap.size with
     | none=>rfl
     | some p=>have:=TH (hk _ _ O); omega
   . left; simp[GN,e]
 . intro b;by_cases e:b=w.heap.size
   . right; subst e
     cases O:k w.heap.size with
     | none=>rfl
     | some p=>have:=TH (hk _ _ O); omega
   . left; simp[GN,e]
 . refine IH.union_le (λb p e=>?_) (U k hk);simp only[GN] at e;split at e
   . rename_i d; subst d; cases e;show(w.heap.push o)[w.heap.size]? = _;simp
   . cases e
 . intro b;by_cases e:b=w.heap.size
   . left; subst e
     cases O:I w.heap.size with
     | none=>rfl
     | some p=>have:=TH (hi _ _ O); omega
   . rcases hd b with d | d
     . exact .inl d
     . right; simp[IH.union,GN,e,d]
 . intro b V;rcases IH.union_none V with d | d
   . simp only[GN] at d;split at d
     . rename_i e; subst e; exact .inr D.size
     . exact absurd rfl d
   . exact hm b d
theorem Sym.drew (h:Sym w0 M I0 I l w) (n:Nat) (d:w.drawn<=n):Sym w0 M I0 I l { w with drawn:=n }:=
 ⟨⟨h.base.os,h.base.tape,h.base.output,gZ h.base.drawn d,h.base.size,h.base.block⟩,h.imm,h.new,h.own⟩
inductive At:List HA→HA→List HA→HA→Prop
 | z {A B:HA} {l:List HA}:At (A :: l) A (B :: l) B
 | s {A B C:HA} {l m:List HA}:At l A m B→At (C :: l) A (C :: m) B
inductive Del:List HA→HA→List HA→Prop
 | z {A:HA} {l:List HA}:Del (A :: l) A l
 | s {A C:HA} {l m:List HA}:Del l A m→Del (C :: l) A (C :: m)
theorem kB {l m:List HA} {A:HA} (U:Del l A m):∀ {h:IH},O2 l I h->∃ J Z,J.disj Z∧J.le h∧Z.le h∧A.holds I J∧O2 m I Z:=by
 induction U with
 | z=>exact λV=>V
 | s _ ih=>
  rintro h ⟨J,Z,U,a4,O,hc,V⟩;have⟨h3,h4,a3,a2,d,ha,hm⟩:=ih V;refine⟨h3,J.union h4,?_,a2.trans O,IH.union_le a4 (d.trans O),ha,J,h4,U.mono (IH.le.refl _) d,IH.le_union_left _ _,IH.le_union_right (U.mono (IH.le.refl _) d),hc,hm⟩;intro b;rcases U b with W | W
  . rcases a3 b with D | D
    . exact .inl D
    . right; simp[IH.union,W,D]
  . left
    cases e:h3 b with
    | none=>rfl
    | some o=>rw[a2 b o e] at W; cases W
theorem At.del {l m:List HA} {A B:HA} (h:At l A m B):∃ r,Del l A r∧Del m B r:=by
 induction h with
 | z=>exact⟨_,.z,.z⟩
 | s _ D=>have⟨r,J,d⟩:=D; exact⟨_,.s J,.s d⟩
theorem Ag9 {l m:List HA} {A:HA} (J:Del l A m):∀ {h W V:IH},W.disj V->W.le h->V.le h->A.holds I W->O2 m I V->O2 l I h:=by
 induction J with
 | z=>exact λJ D d ha hs=>⟨_,_,J,D,d,ha,hs⟩
 | s _ ih=>
  rintro h W V J D d ha ⟨h3,h4,a3,a2,O,hc,hm⟩;refine⟨h3,W.union h4,?_,a2.trans d,IH.union_le D (O.trans d),hc,ih (J.mono (IH.le.refl _) O) (IH.le_union_left _ _) (IH.le_union_right (J.mono (IH.le.refl _) O)) ha hm⟩;intro b;rcases J b with Z | Z
  . rcases a3 b with U | U
    . exact .inl U
    . right; simp[IH.union,Z,U]
  . left
    cases e:h3 b with
    | none=>rfl
    | some o=>rw[a2 b o e] at Z; cases Z
theorem Sym.del (h:Sym w0 M I0 I l w) {m:List HA} {A:HA} (W:Del l A m):Sym w0 M I0 I (A :: m) w:=by have⟨Z,hi,V,k,hs,hk,D,hm⟩:=h;have⟨h1,h2,O,d,J,ha,U⟩:=kB W hs;exact⟨Z,hi,V,k,⟨h1,h2,O,d,J,ha,U⟩,hk,D,hm⟩
theorem Sym.undel {m:List HA} {A:HA} (h:Sym w0 M I0 I (A :: m) w) (D:Del l A m):Sym w0 M I0 I l w:=by have⟨J,hi,d,k,⟨_,_,hd',hl1,hl2,ha,hs'⟩,hk,hdj,hm⟩:=h;exact⟨J,hi,d,k,Ag9 D hd' hl1 hl2 ha hs',hk,hdj,hm⟩
theorem Sym.drop {A:HA} (h:Sym w0 M I0 I (A :: l) w):Sym w0 M I0 I l w:=by have⟨d,hi,D,k,⟨_,_,_,_,hl2,_,hs'⟩,hk,hdj,hm⟩:=h;exact⟨d,hi,D,k,LV (IH.le.refl _) hl2 hs',hk,hdj,hm⟩
theorem Sym.get {A:HA} (h:Sym w0 M I0 I (A :: l) w):∃ k,A.holds I k∧k.le (hp w):=by have⟨_,_,_,k,⟨h1,_,_,hl1,_,ha,_⟩,hk,_,_⟩:=h;exact⟨h1,ha,hl1.trans hk⟩
theorem Sym.pto {b:Nat} {o:Obj} (h:Sym w0 M I0 I (pto b o :: l) w):w.heap[b]? = some o:=by have⟨_,hk,d⟩:=h.get;exact d _ _ hk
theorem Sym.weaken {A B:HA} (h:Sym w0 M I0 I (A :: l) w) (d:∀ k,A.holds I k->B.holds I k):Sym w0 M I0 I (B :: l) w:=by have⟨J,hi,D,k,⟨h1,h2,hd',hl1,hl2,ha,hs'⟩,hk,hdj,hm⟩:=h;exact⟨J,hi,D,k,⟨h1,h2,hd',hl1,hl2,d _ ha,hs'⟩,hk,hdj,hm⟩
theorem Sym.upd {b:Nat} {o o':Obj} {w':World} (a3:Sym w0 M I0 I (Fw.pto b o :: l) w) (h1:w'.os=w.os) (h2:w'.tape=w.tape) (h3:w'.output=w.output) (a4:w'.drawn=w.drawn) (h4:w'.heap.size=w.heap.size)
   (W:∀ k,k≠b->w'.heap[k]? = w.heap[k]?) (h6:w'.heap[b]? = some o'):Sym w0 M I0 I (Fw.pto b o' :: l) w':=by
 have⟨O,hi,hn,k,⟨g1,g2,hd',hl1,hl2,ha,hs'⟩,hk,hdj,hm⟩:=a3;have a7:k b=some o:=hl1 _ _ ha
 have V:I b=none:=by
   rcases hdj b with d | d
   . exact d
   . rw[a7] at d; cases d
 have U:g2 b=none:=by
   rcases hd' b with d | d
   . rw[show g1 b=some o from ha] at d; cases d
   . exact d
 have D:∀ J:IH,J.le (hp w)->J b=none->J.le (hp w'):=λJ hJ a5 c p e=>by
   have a2:c≠b:=λZ=>by rw[Z,a5] at e; cases e
   show w'.heap[c]? = _;rw[W c a2]; exact hJ c p e
 refine⟨⟨h1.trans O.os,h2.trans O.tape,h3.trans O.output,by rw[a4]; exact O.drawn,by rw[h4]; exact O.size,λc h a6=>?_⟩,D I hi V,hn,(GN b o').union g2,⟨GN b o',g2,?_,IH.le_union_left _ _,IH.le_union_right ?_,by simp[Fw.pto,GN],hs'⟩,?_,?_,?_⟩
 . by_cases e:c=b
   . grind
   . rw[W c e]; exact O.block c h a6
 . intro c;grind[GN]
 . intro c;grind[GN]
 . refine IH.union_le (λc p e=>?_) (D g2 (hl2.trans hk) U);simp only[GN] at e;split at e
   . rename_i d; subst d; cases e; exact h6
   . cases e
 . intro c;by_cases e:c=b
   . left; rw[e]; exact V
   . rcases hdj c with d | d
     . exact .inl d
     . right
       have:g2 c=none:=by
        cases Z:g2 c with
        | none=>rfl
        | some p=>rw[hl2 c p Z] at d; cases d
       simp[IH.union,GN,e,this]
 . intro c h;rcases IH.union_none h with d | d
   . grind[GN]
   . refine hm c ?_
     cases e:g2 c with
     | none=>exact absurd e d
     | some p=>rw[hl2 c p e]; simp
theorem Sym.publish {A:HA} (h:Sym w0 M I0 I (A :: l) w):∃ J k,I.le J∧A.holds I k∧k.le J∧Sym w0 M I0 J l w:=by
  have⟨V,hi,W,k,⟨h1,h2,hd',hl1,hl2,ha,hs'⟩,hk,hdj,hm⟩:=h;have Z:I.disj h1:=hdj.mono (IH.le.refl _) hl1;have U:=IH.le_union_left I h1;refine⟨I.union h1,h1,U,ha,IH.le_union_right Z,V,IH.union_le hi (hl1.trans hk),?_,h2,LV U (IH.le.refl _) hs',hl2.trans hk,?_,?_⟩
  . intro b O;rcases IH.union_none O with d | d
    . exact W b d
    . rcases hm b (by cases e:h1 b with | none=>exact absurd e d | some o=>rw[hl1 b o e]; simp) with D | D
      all_goals grind
  . intro b;rcases hd' b with d | d
    . rcases hdj b with D | D
      . left; simp[IH.union,d,D]
      . right
        cases e:h2 b with
        | none=>rfl
        | some o=>rw[hl2 b o e] at D; cases D
    . exact .inr d
  . intro b O;exact hm b (by cases e:h2 b with | none=>exact absurd e O | some o=>rw[hl2 b o e]; simp)
def SA (w:World) (M:Nat->Prop) (I:IH) (φ:IH->Value->List HA->Prop):Ending->World->Prop:=
 λe w'=>∃ v d h,e=.returned v∧I.le d∧φ d v h∧Sym w M I d h w'
def Fun (P:Program) (f:FuncId) (args:Array Value) (I:IH) (l:List HA) (φ:IH->Value->List HA->Prop):Prop:=
 ∀ (w:World) (h:IH),I.le (hp w)->O2 l I h->h.le (hp w)->I.disj h->Calls P f args w (SA w (λb=>h b≠none) I φ)
theorem Sym.call {Z:World} {φ:IH->Value->List HA->Prop} {m r:List HA} (b1:Sym w0 M I0 I (m++r) w) {e:Ending}
   (k:IH) (hk:∃ O,k.disj O∧O.le (hp w)∧I.disj k∧I.disj O∧O2 r I O∧(∀ b,k b≠none->M b∨w0.heap.size<=b)∧(∀ b,O b≠none->M b∨w0.heap.size<=b))
   (ha:SA w (λb=>k b≠none) I φ e Z):∃ v W U,e=.returned v∧I.le W∧φ W v U∧Sym w0 M I0 W (U++r) Z:=by
 have⟨v,W,U,he,a7,hφ,hs⟩:=ha;have⟨O,a4,a3,_,d4,hr,d1,hm⟩:=hk;have⟨V,_,hn,_,_,_,_,_⟩:=b1;have⟨J,c2,a9,h,d3,d0,c1,a8⟩:=hs
 have d5:O.le (hp Z):=λb o eq=>by
   have a5:=TH (a3 b o eq)
   have d2:¬k b≠none:=by
     rcases a4 b with D | D
     all_goals grind
   show Z.heap[b]? = _;rw[J.block b a5 d2]; exact a3 b o eq
 have d6:∀ b,O b≠none->b<w.heap.size:=λb c0=>Ag8 a3 c0
 have b0:W.disj O:=λb=>by
   by_cases e2:O b=none
   . exact .inr e2
   . left
     cases e1:W b with
     | none=>rfl
     | some o=>
       exfalso;rcases a9 b (by rw[e1]; simp) with D | D | D
       . rcases d4 b with d | d
         all_goals grind
       . rcases a4 b with d | d
         all_goals grind
       all_goals grind
 have a6:h.disj O:=λb=>by
   by_cases e2:O b=none
   . exact .inr e2
   . left
     cases e1:h b with
     | none=>rfl
     | some o=>
       exfalso;rcases a8 b (by rw[e1]; simp) with D | D
       . rcases a4 b with d | d
         all_goals grind
       all_goals grind
 refine⟨v,W,U,he,a7,hφ,⟨J.os.trans V.os,J.tape.trans V.tape,J.output.trans V.output,gZ V.drawn J.drawn,gZ V.size J.size,λb h1 h2=>?_⟩,c2,λb a2=>?_,h.union O,NN.2 ⟨h,O,a6,IH.le_union_left _ _,IH.le_union_right a6,d3,LV a7 (IH.le.refl _) hr⟩,IH.union_le d0 d5,?_,?_⟩
 . have a5:b<w.heap.size:=AiB h1 V.size;by_cases e:k b=none
   . rw[J.block b a5 (by simp[e])]; exact V.block b h1 h2
   all_goals grind
 . rcases a9 b a2 with D | D | D
   . exact hn b D
   . grind
   . exact .inr (.inr (gZ V.size D))
 . intro b;rcases c1 b with D | D
   . exact .inl D
   . rcases b0 b with d | d
     . exact .inl d
     . right; simp[IH.union,D,d]
 . intro b a2;rcases IH.union_none a2 with D | D
   . rcases a8 b D with d | d
     . exact d1 b d
     . exact .inr (gZ V.size d)
   . exact hm b D
theorem Fun.use {P:Program} {f:FuncId} {args:Array Value} {φ:IH->Value->List HA->Prop} {m r:List HA} (hf:Fun P f args I m φ) (a4:Sym w0 M I0 I (m++r) w)
  {R:Ending->World->Prop} (hR:∀ v V U w',I.le V->φ V v U->Sym w0 M I0 V (U++r) w'->R (.returned v) w'):Calls P f args w R:=by
 have⟨hb,hi,hn,k,hs,hk,W,O⟩:=a4;have⟨Z,h,a5,D,J,a6,a7⟩:=NN.1 hs;refine(hf w Z hi a6 (D.trans hk) (W.mono (IH.le.refl _) D)).mono λ_ w' ha=>?_;have a3:∀ b,Z b≠none->k b≠none:=λb d=>by cases e':Z b with | none=>exact absurd e' d | some o=>rw[D b o e']; simp
 have a2:∀ b,h b≠none->k b≠none:=λb d=>by cases e':h b with | none=>exact absurd e' d | some o=>rw[J b o e']; simp
 obtain⟨v,V,U,rfl,_,_,_⟩:=Sym.call (m:=m) (r:=r) ⟨hb,hi,hn,k,hs,hk,W,O⟩ Z ⟨h,a5,J.trans hk,W.mono (IH.le.refl _) D,W.mono (IH.le.refl _) J,a7,λb d=>O b (a3 b d),λb d=>O b (a2 b d)⟩ ha;grind
theorem Fun.start {h:IH} (hi:I.le (hp w)) (D:O2 l I h) (d:h.le (hp w)) (J:I.disj h):Sym w (λb=>h b≠none) I I l w:=
 ⟨⟨rfl,rfl,rfl,YG _,YG _,λ_ _ _=>rfl⟩,hi,λ_ h=>.inl h,h,D,d,J,λ_ h=>.inl h⟩
variable {P:Program} {n:FrK} {E:DF} {S:World→Prop} {Q:Exit→Act→World→Prop}
def Ops (P:Program) (ops:Array Oper) (l:List Oper) (n:FrK) (E:DF) (S:World->Prop) (Q:Exit->Act->World->Prop):Prop:=
 ∀ a w,Ok n E a->S w->wpListIn (WM n) 0 P ops Q l a w
def Cod (P:Program) (c:Code) (n:FrK) (E:DF) (S:World->Prop) (Q:Exit->Act->World->Prop):Prop:=
 ∀ a w,Ok n E a->S w->c.wpIn (WM n) 0 P Q a w
theorem NO {b:Frame} {k:List Item} {cs:List Frame} {a:Act} {c:Code}:step P (lone (b.atR a (.code (.scope c) :: k)) cs w)=.next (lone (b.atR a (.code c :: .inScope c :: k)) cs w):=
 step_lone_go (by simp[stepG,stepG.exec,Frame.atR])
theorem wU {b:Frame} {k:List Item} {cs:List Frame} {a:Act} {c:Code}:step P (lone (b.atR a (.inScope c :: k)) cs w)=.next (lone (b.atR a k) cs w):=
 step_lone_go (by simp[stepG,stepG.exec,Frame.atR])
theorem nX {F:Fence} {i:Nat} {c:Code} {a:Act} (a3:c.wpIn F i P (Exit.noGoto Q) a w):(Code.scope c).wpIn F i P Q a w:=by
 intro b k cs a2 W h;have J:(lone (b.atR a (.code (.scope c) :: k)) cs w).fenced P F:=fenced_calm W h rfl;have⟨e,O,U,D,d⟩:=a3 b (.inScope c :: k) cs a2 W h
 cases e with
 | normal=>exact⟨.normal,O,U,D,.head J NO (StepsIn.trans d (.one (fenced_calm W h rfl) wU))⟩
 | exit id=>
  have Z:exitTo id (.inScope c :: k)=exitTo id k:=by simp[exitTo]
  exact⟨.exit id,O,U,D,λk' hk=>.head J NO (d.1 k' (by rw[Z]; exact hk)),
   λV hk=>let ⟨k₁,h1,h2⟩:=d.2 V (by rw[Z]; exact hk); ⟨k₁,h1,.head J NO h2⟩⟩
 | goto l=>exact D.elim
 | ret=>exact⟨_,O,U,D,.of_steps (.one J NO) d⟩
 | panic ch=>exact⟨_,O,U,D,.of_steps (.one J NO) d⟩
 | outgrown=>exact⟨_,O,U,D,.of_steps (.one J NO) d⟩
theorem Cod.at {c:Code} {a:Act} (D:Ok n E a) (d:S w) (h:Cod P c n E S Q):c.wpIn (WM n) 0 P Q a w:=h a w D d
theorem Ops.sub {ops:Array Oper} {l:List Oper} {E':DF} (D:Sub E' E) (h:Ops P ops l n E' S Q):Ops P ops l n E S Q:=λa w J d=>h a w (J.sub D) d
theorem Cod.pre {c:Code} {d:World->Prop} (J:∀ w,S w->d w) (h:Cod P c n E d Q):Cod P c n E S Q:=λa w O D=>h a w O (J w D)
theorem Ops.pre {ops:Array Oper} {l:List Oper} {d:World->Prop} (J:∀ w,S w->d w) (h:Ops P ops l n E d Q):Ops P ops l n E S Q:=λa w O D=>h a w O (J w D)
theorem Cod.seq {x y:Code} (h:Cod P x n E S (Exit.then (y.wpIn (WM n) 0 P Q) Q)):Cod P (.seq x y) n E S Q:=λa w D d=>wpIn_seq (h a w D d)
theorem Cod.region {l:List Oper} (h:Ops P l.toArray l n E S Q):Cod P (.region id l.toArray false) n E S Q:=λa w D d=>wpIn_region_lit (h a w D d)
theorem Cod.block {c:Code} (h:Cod P c n E S (Exit.inBlock id Q)):Cod P (.block id c) n E S Q:=λa w D d=>wpIn_block (h a w D d)
theorem Cod.scope {c:Code} (h:Cod P c n E S (Exit.noGoto Q)):Cod P (.scope c) n E S Q:=λa w D d=>nX (h a w D d)
theorem Cod.skip' (h:∀ a w,Ok n E a->S w->Q .normal a w):Cod P .skip n E S Q:=λa w D d=>wpIn_skip (h a w D d)
theorem Cod.exit (h:∀ a w,Ok n E a->S w->Q (.exit id) a w):Cod P (.exit id) n E S Q:=λa w D d=>wpIn_exit (h a w D d)
theorem Cod.ret (h:∀ a w,Ok n E a->S w->Q .ret a w):Cod P .ret n E S Q:=λa w D d=>wpIn_ret (h a w D d)
theorem Cod.label' {k:Nat} (h:∀ a w,Ok n E a->S w->Q .normal a w):Cod P (.label k) n E S Q:=λa w D d=>wpIn_label (h a w D d)
theorem Cod.cond {c:Operand} {x y:Code} {t:Bool} (J:ev E c=some (.bool t)) (U:t=true->Cod P x n E S Q) (O:t=false->Cod P y n E S Q):Cod P (.cond c x y) n E S Q:=
 λa w d D=>wpIn_cond_split (d.eval J) (λh=>U h a w d D) (λh=>O h a w d D)
theorem Cod.condT {c:Operand} {x y:Code} (D:ev E c=some (.bool true)) (h:Cod P x n E S Q):Cod P (.cond c x y) n E S Q:=λa w d J=>wpIn_cond_true (d.eval D) (h a w d J)
theorem Cod.condF {c:Operand} {x y:Code} (D:ev E c=some (.bool false)) (h:Cod P y n E S Q):Cod P (.cond c x y) n E S Q:=λa w d J=>wpIn_cond_false (d.eval D) (h a w d J)
theorem Cod.condKT {c:Operand} {x y:Code} {t:Bool} (d:ev E c=some (.bool t)) (D:t=true) (h:Cod P x n E S Q):Cod P (.cond c x y) n E S Q:=Cod.condT (by rw[d,D]) h
theorem Cod.condKF {c:Operand} {x y:Code} {t:Bool} (d:ev E c=some (.bool t)) (D:t=false) (h:Cod P y n E S Q):Cod P (.cond c x y) n E S Q:=Cod.condF (by rw[d,D]) h
theorem Ops.nil' {ops:Array Oper} (h:∀ a w,Ok n E a->S w->Q .normal a w):Ops P ops [] n E S Q:=λa w D d=>h a w D d
theorem kC {o:Oper} {a:Act} {K:Act->World->Prop} {x:Next} {O:World} (D:(execOp a.eval o).run P w=.ok x O) (V:∀ d,x≠.defer d) (h:o.uponIn (WM n) 0 P a K Q (.ok x O)):o.wpIn (WM n) 0 P a w K Q:=by
 have J:∀ c,o.op≠.defer c:=λc U=>by
  unfold execOp at D; rw[U] at D;simp only[Sem.run_bind,Result.andThen] at D;split at D
  . simp at D; exact V _ D.1.symm
  . cases D
 refine⟨λ_ _=>trivial,?_⟩;rw[Oper.semAt_eq _ _ _ J,D]; exact h
def A5 (b:Bool) (A B:Prop):Prop:=(b=true->A)∧(b=false->B)
def SB (d:σ->(σ->Prop)->Prop):Nat->σ->Prop
 | 0,_=>False
 | k+1,s=>d s (SB d k)
def B4 (d:σ->(σ->Prop)->Prop) (s:σ):Prop:=∃ k,SB d k s
theorem Cod.loop {c:Code} {d:σ->(σ->Prop)->Prop} {s0:σ} (hd:B4 d s0) (D:σ->Act->World->Prop) (h0:∀ a w,Ok n E a->S w->D s0 a w)
  (a2:∀ s (next:σ->Prop),d s next->∀ a w,D s a w->c.wpIn (WM n) 0 P (Exit.then (λZ w'=>∃ J,next J∧D J Z w') Q) a w):Cod P (.loop c) n E S Q:=by
 intro a w ho hs
 have⟨k,hk⟩:=hd
 have a3:=h0 a w ho hs
 clear h0 ho hs
 obtain⟨μ,hμ⟩:∃ μ:Act->World->Nat,∀ a w,(∃ j s,SB d j s∧D s a w)->∃ s,SB d (μ a w) s∧D s a w∧∀ j J,SB d j J->D J a w->μ a w<=j:=by
  have H:∀ a w,∃ m:Nat,(∃ j s,SB d j s∧D s a w)->∃ s,SB d m s∧D s a w∧∀ j J,SB d j J->D J a w->m<=j:=by
   intro a w
   by_cases hex:∃ j s,SB d j s∧D s a w
   . have⟨j,s,W⟩:=hex
     suffices h:∀ (b:Nat) (s:σ),SB d b s->D s a w->∃ m s,SB d m s∧D s a w∧∀ j J,SB d j J->D J a w->m<=j by
      have⟨m,s,U,O,h3⟩:=h j s W.1 W.2
      exact⟨m,λ_=>⟨s,U,O,h3⟩⟩
     intro b
     induction b using Nat.strongRecOn with
     | _ b ih=>
      grind
   . exact⟨0,λh=>absurd h hex⟩
  exact⟨λa w=>Classical.choose (H a w),λa w=>Classical.choose_spec (H a w)⟩
 refine wpIn_loop (λa w=>∃ j s,SB d j s∧D s a w) μ ⟨k,s0,hk,a3⟩ λa w hI=>?_
 have⟨s,U,O,h3⟩:=hμ a w hI
 cases hm:μ a w with
 | zero=>rw[hm] at U; exact U.elim
 | succ m=>
  rw[hm] at U
  refine Code.wpIn_mono (λe Z w' q=>?_) (a2 s (SB d m) U a w O)
  cases e <;> try exact q
  have⟨J,hn,V⟩:=q
  refine⟨⟨m,J,hn,V⟩,?_⟩
  have⟨_,_,_,_⟩:=hμ Z w' ⟨m,J,hn,V⟩
  grind
end
section
variable {w0 w:World} {M:Nat→Prop} {I0 I:IH} {m:List HA}
variable {P:Program} {n:FrK} {E:DF} {S:World→Prop} {Q:Exit→Act→World→Prop} {ops:Array Oper} {l:List Oper}
variable {d ty:Nat} {pos:String} {af:Array Edge}
variable {q':IntKind}
theorem Ops.valx {o:Oper} (T:Value->World->Prop) (hg:o.guard=none) (J:o.dst=some d)
  (hr:∀ a w,Ok n E a->S w->∃ v w',(execOp a.eval o).run P w=.ok (.value v) w'∧T v w')
  (O:Nat.blt d n.sz=true) (W:fresh E d=true) (k:∀ v,Ops P ops l n ((d,v) :: E) (T v) Q):Ops P ops (o :: l) n E S Q:=by
 intro a w D V;have⟨v,w',h,Z⟩:=hr a w D V;refine wpListIn_plain hg λ_ U=>?_;refine kC h (by simp) ?_;simp only[Oper.uponIn,J];exact U _ _ (k v _ _ (D.put O W v) Z)
theorem Ops.val {o:Oper} {v:Value} (W:o.guard=none) (J:o.dst=some d)
  (Z:∀ a w,Ok n E a->S w->(execOp a.eval o).run P w=.ok (.value v) w)
  (O:Nat.blt d n.sz=true) (U:fresh E d=true) (k:Ops P ops l n ((d,v) :: E) S Q):Ops P ops (o :: l) n E S Q:=by
 intro a w D h;refine wpListIn_plain W λ_ V=>?_;refine kC (Z a w D h) (by simp) ?_;simp only[Oper.uponIn,J];exact V _ _ (k _ _ (D.put O U v) h)
theorem Ops.act {o:Oper} {J:World->Prop} (Z:o.guard=none) (U:o.dst=none)
  (hr:∀ a w,Ok n E a->S w->∃ w',(execOp a.eval o).run P w=.ok .skip w'∧J w') (k:Ops P ops l n E J Q):Ops P ops (o :: l) n E S Q:=by
 intro a w D O;have⟨w',h,W⟩:=hr a w D O;refine wpListIn_plain Z λ_ V=>?_;refine kC h (by simp) ?_;simp only[Oper.uponIn,U];exact V _ _ (k _ _ D W)
theorem Ops.val0 {o:Oper} {J:World->Prop} (Z:o.guard=none) (O:o.dst=none)
  (hr:∀ a w,Ok n E a->S w->∃ v w',(execOp a.eval o).run P w=.ok (.value v) w'∧J w') (k:Ops P ops l n E J Q):Ops P ops (o :: l) n E S Q:=by
 intro a w D V;have⟨v,w',h,W⟩:=hr a w D V;refine wpListIn_plain Z λ_ U=>?_;refine kC h (by simp) ?_;simp only[Oper.uponIn,O];exact U _ _ (k _ _ D W)
def pR (ops:Array Oper) (j:Nat):Option Nat:=(ops[j]?).bind (·.dst)
theorem hZ {a:Act} {j s:Nat} {b:Bool} (D:pR ops j=some s) (h:a.tmps[s]? = some (.bool b)):yielded ops a.tmps j=some b:=by simp only[pR] at D;simp[yielded,D,h]
theorem Ops.gyes {h:Option Nat} {J:Op} {j s:Nat} {b c:Bool} (Z:pR ops j=some s) (V:look E s=some (.bool c)) (O:c=b)
  (k:Ops P ops (⟨h,J,ty,pos,af,none⟩ :: l) n E S Q):Ops P ops (⟨h,J,ty,pos,af,some (j,b)⟩ :: l) n E S Q:=by
 subst O;intro a w D W;have hk:=k a w D W;unfold wpListIn at hk ⊢;have U:=hZ (ops:=ops) Z (D.env.look V);rw[if_pos (by simp[Region.wanted])] at hk;rw[if_pos (by simp[Region.wanted,U])];exact hk
theorem Ops.gno {h:Nat} {op:Op} {j s:Nat} {b c:Bool} (hj:pR ops j=some s) (U:look E s=some (.bool c)) (D:c = !b)
  (W:Nat.blt h n.sz=true) (Z:fresh E h=true) (k:Ops P ops l n ((h,undef) :: E) S Q):Ops P ops (⟨some h,op,ty,pos,af,some (j,b)⟩ :: l) n E S Q:=by
 intro a w J V;unfold wpListIn;have O:=hZ (ops:=ops) hj (J.env.look U);rw[if_neg (by simp only[Region.wanted,O]; subst D; cases b <;> simp)];exact⟨λ_ _=>trivial,k _ _ (J.put W Z undef) V⟩
section
variable {x y z:Operand} {v u:Value}
theorem Ops.move (O:ev E x=some v) (D:Nat.blt d n.sz=true) (J:fresh E d=true) (k:Ops P ops l n ((d,v) :: E) S Q):Ops P ops (⟨some d,.move x,ty,pos,af,none⟩ :: l) n E S Q:=
 Ops.val rfl rfl (λ_ _ h _=>by simp[execOp,h.eval O]) D J k
theorem Ops.pickT {c:Bool} (V:ev E x=some (.bool c)) (D:c=true) (U:ev E y=some v) (J:Nat.blt d n.sz=true) (O:fresh E d=true) (k:Ops P ops l n ((d,v) :: E) S Q) :
  Ops P ops (⟨some d,.pick x y z,ty,pos,af,none⟩ :: l) n E S Q:=
 Ops.val rfl rfl (λ_ _ h _=>by subst D; simp[execOp,h.eval V,h.eval U,asBool]) J O k
theorem Ops.pickF {c:Bool} (V:ev E x=some (.bool c)) (D:c=false) (U:ev E z=some v) (J:Nat.blt d n.sz=true) (O:fresh E d=true) (k:Ops P ops l n ((d,v) :: E) S Q) :
  Ops P ops (⟨some d,.pick x y z,ty,pos,af,none⟩ :: l) n E S Q:=
 Ops.val rfl rfl (λ_ _ h _=>by subst D; simp[execOp,h.eval V,h.eval U,asBool]) J O k
theorem Ops.nilCheckP {p:Addr} (O:ev E x=some (.pointer (some p))) (D:Nat.blt d n.sz=true) (J:fresh E d=true) (k:Ops P ops l n ((d,.pointer (some p)) :: E) S Q) :
  Ops P ops (⟨some d,.nilCheck x,ty,pos,af,none⟩ :: l) n E S Q:=
 Ops.val rfl rfl (λ_ _ h _=>by simp[execOp,h.eval O]) D J k
theorem Ops.makeFunc {D:Fn} {first cap:Array Operand} {vs h:Array Value} (W:∀ a,Ok n E a->first.map a.eval=vs) (V:∀ a,Ok n E a->cap.map a.eval=h)
  (O:Nat.blt d n.sz=true) (U:fresh E d=true) (k:Ops P ops l n ((d,.func D vs h) :: E) S Q):Ops P ops (⟨some d,.makeFunc D first cap,ty,pos,af,none⟩ :: l) n E S Q:=
 Ops.val rfl rfl (λa _ J _=>by simp only[execOp,Instr.makeFunc,W a J,V a J]; rfl) O U k
end
section
variable {x y:Operand} {q:IntKind} {a b:Int} {T T':TypeId}
abbrev A4 (x:Int):Int:=IntKind.wrap .i64 x
def TI (q:IntKind) (a b:Int):Int:=q.wrap (BitVec.ofInt q.bits a &&& BitVec.ofInt q.bits b).toNat
def bor (q:IntKind) (a b:Int):Int:=q.wrap (BitVec.ofInt q.bits a ||| BitVec.ofInt q.bits b).toNat
def AwY (q:IntKind) (a b:Int):Int:=q.wrap (BitVec.ofInt q.bits a ^^^ BitVec.ofInt q.bits b).toNat
def AuJ (q:IntKind) (a b:Int):Int:=q.wrap (BitVec.ofInt q.bits a &&& ~~~ BitVec.ofInt q.bits b).toNat
def shl (q:IntKind) (a b:Int):Int:=q.wrap (a*2 ^ (min b.toNat q.bits))
def shr (q:IntKind) (a b:Int):Int:=a.fdiv (2 ^ (min b.toNat q.bits))
theorem Ops.int2 {h:BinOp} {v:Value} (O:ev E x=some (.int q a)) (V:ev E y=some (.int q b)) (Z:∀ w,(binOp h T (.int q a) (.int q b)).run P w=.ok v w)
  (J:Nat.blt d n.sz=true) (U:fresh E d=true) (k:Ops P ops l n ((d,v) :: E) S Q):Ops P ops (⟨some d,.binOp h T x y T',ty,pos,af,none⟩ :: l) n E S Q:=
 Ops.val rfl rfl (λ_ w D _=>by
  have W:(eqGuard h T x y (.int q a) (.int q b)).run P w=.ok () w:=by unfold eqGuard; cases h <;> rfl
  simp only[execOp,D.eval O,D.eval V,Sem.run_bind,W,Result.andThen_ok,Z,Sem.run_pure]) J U k
theorem Ops.add (O:ev E x=some (.int q a)) (J:ev E y=some (.int q b)) (h:Nat.blt d n.sz=true) (D:fresh E d=true) (k:Ops P ops l n ((d,.int q (q.wrap (a+b))) :: E) S Q) :
 Ops P ops (⟨some d,.binOp .add T x y T',ty,pos,af,none⟩ :: l) n E S Q:=Ops.int2 O J (λ_=>by simp[binOp,Op.intArith]) h D k
theorem Ops.quo (J:ev E x=some (.int q a)) (O:ev E y=some (.int q b)) (U:b≠0) (h:Nat.blt d n.sz=true) (D:fresh E d=true) (k:Ops P ops l n ((d,.int q (q.wrap (a.tdiv b))) :: E) S Q) :
 Ops P ops (⟨some d,.binOp .quo T x y T',ty,pos,af,none⟩ :: l) n E S Q:=Ops.int2 J O (λ_=>by simp[binOp,Op.intDiv,U]) h D k
theorem Ops.rem (J:ev E x=some (.int q a)) (O:ev E y=some (.int q b)) (U:b≠0) (h:Nat.blt d n.sz=true) (D:fresh E d=true) (k:Ops P ops l n ((d,.int q (a.tmod b)) :: E) S Q) :
 Ops P ops (⟨some d,.binOp .rem T x y T',ty,pos,af,none⟩ :: l) n E S Q:=Ops.int2 J O (λ_=>by simp[binOp,Op.intDiv,U]) h D k
theorem Ops.and (O:ev E x=some (.int q a)) (J:ev E y=some (.int q b)) (h:Nat.blt d n.sz=true) (D:fresh E d=true) (k:Ops P ops l n ((d,.int q (TI q a b)) :: E) S Q) :
 Ops P ops (⟨some d,.binOp .and T x y T',ty,pos,af,none⟩ :: l) n E S Q:=Ops.int2 O J (λ_=>by simp[binOp,Op.intBits,TI]) h D k
theorem Ops.eq (O:ev E x=some (.int q a)) (J:ev E y=some (.int q b)) (h:Nat.blt d n.sz=true) (D:fresh E d=true) (k:Ops P ops l n ((d,.bool (a==b)) :: E) S Q) :
 Ops P ops (⟨some d,.binOp .eql T x y T',ty,pos,af,none⟩ :: l) n E S Q:=Ops.int2 O J (λ_=>by simp[binOp,Op.intCmp]) h D k
theorem Ops.ne (O:ev E x=some (.int q a)) (J:ev E y=some (.int q b)) (h:Nat.blt d n.sz=true) (D:fresh E d=true) (k:Ops P ops l n ((d,.bool (a != b)) :: E) S Q) :
 Ops P ops (⟨some d,.binOp .neq T x y T',ty,pos,af,none⟩ :: l) n E S Q:=Ops.int2 O J (λ_=>by simp[binOp,Op.intCmp]) h D k
theorem Ops.gt (O:ev E x=some (.int q a)) (J:ev E y=some (.int q b)) (h:Nat.blt d n.sz=true) (D:fresh E d=true) (k:Ops P ops l n ((d,.bool (decide (b<a))) :: E) S Q) :
 Ops P ops (⟨some d,.binOp .gtr T x y T',ty,pos,af,none⟩ :: l) n E S Q:=Ops.int2 O J (λ_=>by simp[binOp,Op.intCmp]) h D k
theorem Ops.sft {h:BinOp} {v:Value} (O:ev E x=some (.int q a)) (W:ev E y=some (.int q' b)) (D:h=.shl∨h=.shr) (hr:∀ w,(binOp h T (.int q a) (.int q' b)).run P w=.ok v w)
  (U:Nat.blt d n.sz=true) (V:fresh E d=true) (k:Ops P ops l n ((d,v) :: E) S Q):Ops P ops (⟨some d,.binOp h T x y T',ty,pos,af,none⟩ :: l) n E S Q:=
 Ops.val rfl rfl (λ_ w J _=>by
  have Z:(eqGuard h T x y (.int q a) (.int q' b)).run P w=.ok () w:=by rcases D with rfl | rfl <;> rfl
  simp only[execOp,J.eval O,J.eval W,Sem.run_bind,Z,Result.andThen_ok,hr,Sem.run_pure]) U V k
theorem Ops.shl' (J:ev E x=some (.int q a)) (O:ev E y=some (.int q' b)) (U:0<=b) (h:Nat.blt d n.sz=true) (D:fresh E d=true) (k:Ops P ops l n ((d,.int q (shl q a b)) :: E) S Q) :
 Ops P ops (⟨some d,.binOp .shl T x y T',ty,pos,af,none⟩ :: l) n E S Q:=Ops.sft J O (.inl rfl) (λ_=>by simp[binOp,Op.shift,Fw.shl,Int.not_lt.2 U]) h D k
theorem Ops.shr' (J:ev E x=some (.int q a)) (O:ev E y=some (.int q' b)) (U:0<=b) (h:Nat.blt d n.sz=true) (D:fresh E d=true) (k:Ops P ops l n ((d,.int q (shr q a b)) :: E) S Q) :
 Ops P ops (⟨some d,.binOp .shr T x y T',ty,pos,af,none⟩ :: l) n E S Q:=Ops.sft J O (.inr rfl) (λ_=>by simp[binOp,Op.shift,Fw.shr,Int.not_lt.2 U]) h D k
theorem Ops.not {b:Bool} (O:ev E x=some (.bool b)) (D:Nat.blt d n.sz=true) (J:fresh E d=true) (k:Ops P ops l n ((d,.bool (!b)) :: E) S Q) :
 Ops P ops (⟨some d,.unOp .not T x,ty,pos,af,none⟩ :: l) n E S Q:=Ops.val rfl rfl (λ_ _ h _=>by simp[execOp,h.eval O,Op.unary]) D J k
theorem Ops.neg (O:ev E x=some (.int q a)) (D:Nat.blt d n.sz=true) (J:fresh E d=true) (k:Ops P ops l n ((d,.int q (q.wrap (0 - a))) :: E) S Q) :
 Ops P ops (⟨some d,.unOp .neg T x,ty,pos,af,none⟩ :: l) n E S Q:=Ops.val rfl rfl (λ_ _ h _=>by simp[execOp,h.eval O,Op.unary,Op.intArith]) D J k
theorem Ops.conv {h:IntKind} (V:P.underlying T=some (.int h)) (D:P.underlying T'=some (.int q')) (W:ev E x=some (.int q a)) (O:Nat.blt d n.sz=true) (U:fresh E d=true)
  (k:Ops P ops l n ((d,.int q' (q'.wrap a)) :: E) S Q) :
  Ops P ops (⟨some d,.convert T T' x,ty,pos,af,none⟩ :: l) n E S Q:=
 Ops.val rfl rfl (λ_ _ J _=>by simp[execOp,J.eval W,convert,run_underlying V,run_underlying D,Conv.intToInt]) O U k
theorem dE {u v:Value} {r:Bool} (h:∀ e w,(Op.equalIn (e+1) T u v).run P w=.ok r w) (w:World):(Op.equal T u v).run P w=.ok r w:=h 9999 w
theorem Ops.eqV {u v:Value} {r:Bool} (J:ev E x=some u) (V:ev E y=some v) (Z:∀ w,(Op.equal T u v).run P w=.ok r w)
  (W:∀ w,(eqGuard .eql T x y u v).run P w=.ok () w) (h:binOp .eql T u v=(do pure (.bool (<-Op.equal T u v))))
  (O:Nat.blt d n.sz=true) (U:fresh E d=true) (k:Ops P ops l n ((d,.bool r) :: E) S Q):Ops P ops (⟨some d,.binOp .eql T x y T',ty,pos,af,none⟩ :: l) n E S Q:=
 Ops.val rfl rfl (λ_ w D _=>by simp only[execOp,D.eval J,D.eval V,Sem.run_bind,W,Result.andThen_ok,h,Z,Sem.run_pure]) O U k
theorem Ops.neV {u v:Value} {r:Bool} (J:ev E x=some u) (V:ev E y=some v) (Z:∀ w,(Op.equal T u v).run P w=.ok r w)
  (W:∀ w,(eqGuard .neq T x y u v).run P w=.ok () w) (h:binOp .neq T u v=(do pure (.bool (!(<-Op.equal T u v)))))
  (O:Nat.blt d n.sz=true) (U:fresh E d=true) (k:Ops P ops l n ((d,.bool (!r)) :: E) S Q):Ops P ops (⟨some d,.binOp .neq T x y T',ty,pos,af,none⟩ :: l) n E S Q:=
 Ops.val rfl rfl (λ_ w D _=>by simp only[execOp,D.eval J,D.eval V,Sem.run_bind,W,Result.andThen_ok,h,Z,Sem.run_pure]) O U k
theorem Ops.eqB {a b:Bool} (J:P.underlying T=some .bool) (U:ev E x=some (.bool a)) (O:ev E y=some (.bool b)) (h:Nat.blt d n.sz=true) (D:fresh E d=true) (k:Ops P ops l n ((d,.bool (a==b)) :: E) S Q) :
  Ops P ops (⟨some d,.binOp .eql T x y T',ty,pos,af,none⟩ :: l) n E S Q:=
 Ops.eqV U O (dE λ_ _=>by simp[Op.equalIn,run_underlying J]) (λ_=>rfl) rfl h D k
theorem Ops.neB {a b:Bool} (J:P.underlying T=some .bool) (U:ev E x=some (.bool a)) (O:ev E y=some (.bool b)) (h:Nat.blt d n.sz=true) (D:fresh E d=true) (k:Ops P ops l n ((d,.bool (!(a==b))) :: E) S Q) :
  Ops P ops (⟨some d,.binOp .neq T x y T',ty,pos,af,none⟩ :: l) n E S Q:=
 Ops.neV U O (dE λ_ _=>by simp[Op.equalIn,run_underlying J]) (λ_=>rfl) rfl h D k
theorem Ops.eqNilP {p:Option Addr} {t:TypeId} (J:P.underlying T=some (.pointer t)) (U:ev E x=some (.pointer p)) (O:ev E y=some (.pointer none)) (h:Nat.blt d n.sz=true) (D:fresh E d=true)
  (k:Ops P ops l n ((d,.bool p.isNone) :: E) S Q):Ops P ops (⟨some d,.binOp .eql T x y T',ty,pos,af,none⟩ :: l) n E S Q:=
 Ops.eqV U O (dE λ_ _=>by cases p <;> simp[Op.equalIn,run_underlying J]) (λ_=>rfl) rfl h D k
theorem Ops.neNilP {p:Option Addr} {t:TypeId} (J:P.underlying T=some (.pointer t)) (U:ev E x=some (.pointer p)) (O:ev E y=some (.pointer none)) (h:Nat.blt d n.sz=true) (D:fresh E d=true)
  (k:Ops P ops l n ((d,.bool (!p.isNone)) :: E) S Q):Ops P ops (⟨some d,.binOp .neq T x y T',ty,pos,af,none⟩ :: l) n E S Q:=
 Ops.neV U O (dE λ_ _=>by cases p <;> simp[Op.equalIn,run_underlying J]) (λ_=>rfl) rfl h D k
end
theorem Ops.minI {x y:Operand} {q:IntKind} {a b:Int} {h:Array TypeId} (V:ev E x=some (.int q a)) (U:ev E y=some (.int q b)) (J:Nat.blt d n.sz=true) (O:fresh E d=true)
  (k:Ops P ops l n ((d,.int q (if b<a then b else a)) :: E) S Q):Ops P ops (⟨some d,.call ⟨.builtin .min,#[x,y],h⟩,ty,pos,af,none⟩ :: l) n E S Q:=
 Ops.val rfl rfl (λ_ _ D _=>by simp[execOp,resolve,invoke,builtin,Builtin.min_,Builtin.min2,D.eval V,D.eval U]) J O k
theorem Ops.maxI {x y:Operand} {q:IntKind} {a b:Int} {h:Array TypeId} (V:ev E x=some (.int q a)) (U:ev E y=some (.int q b)) (J:Nat.blt d n.sz=true) (O:fresh E d=true)
  (k:Ops P ops l n ((d,.int q (if b > a then b else a)) :: E) S Q):Ops P ops (⟨some d,.call ⟨.builtin .max,#[x,y],h⟩,ty,pos,af,none⟩ :: l) n E S Q:=
 Ops.val rfl rfl (λ_ _ D _=>by simp[execOp,resolve,invoke,builtin,Builtin.max_,Builtin.max2,D.eval V,D.eval U]) J O k
theorem eqS {T:TypeId} {k:Nat} {D:Array Field} {xs ys:Array Value} {r:Bool} (J:P.underlying T=some (.struct D)) (hp:P.stoodInHeld T=false) (h:∀ w,(Op.eqFields k xs ys D.toList).run P w=.ok r w) (w:World) :
  (Op.equalIn (k+1) T (.agg xs) (.agg ys)).run P w=.ok r w:=by
 have e0:P.fieldsOf T=D:=by simp[Program.fieldsOf,J]
 rw[run_equalIn_struct w k T xs ys (by rw[J,e0]) hp,e0]; exact h w
theorem eqN {k:Nat} {xs ys:Array Value} (w:World):(Op.eqFields k xs ys []).run P w=.ok true w:=rfl
theorem eqC {k:Nat} {xs ys:Array Value} {f:Field} {D:List Field} {u v:Value} {b r:Bool} (O:f.name ≠ "_") (U:∀ w,(isAgg f.type).run P w=.ok false w) (W:xs[f.offset]? = some u) (V:ys[f.offset]? = some v)
  (J:∀ w,(Op.equalIn k f.type u v).run P w=.ok b w) (h:∀ w,(Op.eqFields k xs ys D).run P w=.ok r w) (w:World):(Op.eqFields k xs ys (f :: D)).run P w=.ok (b && r) w:=by
 simp only[Op.eqFields,O,ne_eq,not_false_eq_true,if_true,Sem.run_bind,part,U,Result.andThen_ok,AaJ,if_false,W,V,Sem.run_pure,J];cases b <;> simp[h]
theorem eqI {T:TypeId} {k:Nat} {q:IntKind} {a b:Int} (h:P.underlying T=some (.int q')) (w:World):(Op.equalIn (k+1) T (.int q a) (.int q b)).run P w=.ok (a==b) w:=run_equalIn_int w k T q q' a b h
end
section
variable {w0 w:World} {M:Nat→Prop} {I0 I:IH} {m m':List HA}
variable {P:Program} {n:FrK} {E:DF} {Q:Exit→Act→World→Prop} {ops:Array Oper} {l:List Oper}
variable {d ty:Nat} {pos:String} {af:Array Edge} {T:TypeId} {x y:Operand}
/-! ### Cells by lists -/
variable {T':TypeId} {fs:Array Field} {cs':List Value} {fz:Nat×Nat}
inductive Cut:List Value→Nat→List Value→Prop
 | nil {cs:List Value}:Cut cs 0 []
 | t {c:Value} {cs vs:List Value}:Cut cs 0 vs→Cut (c :: cs) 0 (c :: vs)
 | s {c:Value} {cs vs:List Value} {k:Nat}:Cut cs k vs→Cut (c :: cs) (k+1) vs
theorem Cut.get {cs vs:List Value} {k:Nat} (h:Cut cs k vs):∀ j v,vs[j]? = some v->cs[k+j]? = some v:=by
 induction h with
 | nil=>intro j v h; simp at h
 | t h D=>
  grind
 | s h D=>grind
inductive PutC:List Value→Nat→List Value→List Value→Prop
 | nil {cs:List Value}:PutC cs 0 [] cs
 | t {c v:Value} {cs vs cs':List Value}:PutC cs 0 vs cs'→PutC (c :: cs) 0 (v :: vs) (v :: cs')
 | s {c:Value} {cs vs cs':List Value} {k:Nat}:PutC cs k vs cs'→PutC (c :: cs) (k+1) vs (c :: cs')
theorem PutC.eq {cs vs:List Value} {k:Nat} (h:PutC cs k vs cs'):cs'=cs.take k++vs++cs.drop (k+vs.length)∧k+vs.length<=cs.length:=by
 induction h with
 | nil=>simp
 | t h D=>grind
 | s h D=>
  grind
def one (v:Value):Bool:=v.oneCell'
def KE:List Value->Bool
 | []=>true
 | v :: vs=>one v && KE vs
theorem TJ {vs:List Value} (h:KE vs=true):∀ v∈vs,v.oneCell'=true:=by
 induction vs with
 | nil=>intro v D; cases D
 | cons u vs J=>
  simp only[KE,aR] at h;intro v D
  cases D with
  | head=>exact h.1
  | tail _ D=>exact J h.2 v D
theorem QY {b off:Nat} {v:Value} (D:∀ w,(isAgg T).run P w=.ok false w) (h:w.cell? ⟨b,off,none⟩=some v):(Instr.loadAt T (.pointer (some ⟨b,off,none⟩))).run P w=.ok v w:=by simp[Instr.loadAt,Instr.sureAddr,loadVar,D,h]
theorem L5 {b off s:Nat} {vs:List Value} (V:∀ w,(isAgg T).run P w=.ok true w) (O:∀ w,(sizeOf T).run P w=.ok s w) (U:vs.length=s) (J:∀ j v,vs[j]? = some v->w.cell? ⟨b,off+j,none⟩=some v) :
  (Instr.loadAt T (.pointer (some ⟨b,off,none⟩))).run P w=.ok (.agg vs.toArray) w:=by
 subst U
 have h:=run_loadCells_list (P:=P) w ⟨b,off,none⟩ vs (λj v D=>by
  have:=J j v D;have e:(⟨b,off,none⟩:Addr).add j=⟨b,off+j,none⟩:=by unfold Addr.add; split <;> simp_all
  rw[e]; exact this)
 simp[Instr.loadAt,Instr.sureAddr,loadVar,V,O,h]
theorem N2 {b off:Nat} {cs:Array Value} {t:TypeId} (h:w.heap[b]? = some (.cells cs t fz)):w.cell? ⟨b,off,none⟩=cs[off]?:=by simp[World.cell?,h]
theorem Ops.allocA {z:Array Value} (D:∀ w,(zeroValue T).run P w=.ok (.agg z) w) (U:Nat.blt d n.sz=true) (V:fresh E d=true)
  (k:∀ b,Ops P ops l n ((d,.pointer (some ⟨b,0,none⟩)) :: E) (Sym w0 M I0 I (pto b (.cells z T) :: m)) Q) :
  Ops P ops (⟨some d,.alloc T,ty,pos,af,none⟩ :: l) n E (Sym w0 M I0 I m) Q:=
 Ops.valx (λv w'=>∃ b,v=.pointer (some ⟨b,0,none⟩)∧Sym w0 M I0 I (pto b (.cells z T) :: m) w') rfl rfl
  (λa w _ h=>⟨.pointer (some ⟨w.heap.size,0,none⟩),w.alloc (.cells z T),by simp[execOp,Instr.alloc,D,newVar,newRow,Value.cells],_,rfl,h.alloc _⟩) U V
  (λv a w O ⟨b,J,h⟩=>by subst J; exact k b a w O h)
theorem Ops.alloc1 {z:Value} (J:∀ w,(zeroValue T).run P w=.ok z w) (Z:one z=true) (V:Nat.blt d n.sz=true) (W:fresh E d=true)
  (k:∀ b,Ops P ops l n ((d,.pointer (some ⟨b,0,none⟩)) :: E) (Sym w0 M I0 I (pto b (.cells #[z] T) :: m)) Q) :
  Ops P ops (⟨some d,.alloc T,ty,pos,af,none⟩ :: l) n E (Sym w0 M I0 I m) Q:=
 Ops.valx (λv w'=>∃ b,v=.pointer (some ⟨b,0,none⟩)∧Sym w0 M I0 I (pto b (.cells #[z] T) :: m) w') rfl rfl
  (λa w _ h=>⟨.pointer (some ⟨w.heap.size,0,none⟩),w.alloc (.cells #[z] T),by
   have D:z.cells = #[z]:=by cases z <;> first | rfl | cases Z
   simp[execOp,Instr.alloc,J,newVar,newRow,D],_,rfl,h.alloc _⟩) V W
  (λv a w U ⟨b,O,h⟩=>by subst O; exact k b a w U h)
theorem Ops.boxA {z:Array Value} (V:ev E x=some (.agg z)) (O:Nat.blt d n.sz=true) (U:fresh E d=true)
  (k:∀ b,Ops P ops l n ((d,.pointer (some ⟨b,0,none⟩)) :: E) (Sym w0 M I0 I (pto b (.cells z T) :: m)) Q) :
  Ops P ops (⟨some d,.box T x,ty,pos,af,none⟩ :: l) n E (Sym w0 M I0 I m) Q:=
 Ops.valx (λv w'=>∃ b,v=.pointer (some ⟨b,0,none⟩)∧Sym w0 M I0 I (pto b (.cells z T) :: m) w') rfl rfl
  (λa w D h=>⟨.pointer (some ⟨w.heap.size,0,none⟩),w.alloc (.cells z T),by simp[execOp,Instr.box,D.eval V,newVar,newRow,Value.cells],_,rfl,h.alloc _⟩) O U
  (λv a w D ⟨b,J,h⟩=>by subst J; exact k b a w D h)
theorem Ops.box1 {z:Value} (Z:ev E x=some z) (W:one z=true) (U:Nat.blt d n.sz=true) (V:fresh E d=true)
  (k:∀ b,Ops P ops l n ((d,.pointer (some ⟨b,0,none⟩)) :: E) (Sym w0 M I0 I (pto b (.cells #[z] T) :: m)) Q) :
  Ops P ops (⟨some d,.box T x,ty,pos,af,none⟩ :: l) n E (Sym w0 M I0 I m) Q:=
 Ops.valx (λv w'=>∃ b,v=.pointer (some ⟨b,0,none⟩)∧Sym w0 M I0 I (pto b (.cells #[z] T) :: m) w') rfl rfl
  (λa w D h=>⟨.pointer (some ⟨w.heap.size,0,none⟩),w.alloc (.cells #[z] T),by
   have J:z.cells = #[z]:=by cases z <;> first | rfl | cases W
   simp[execOp,Instr.box,D.eval Z,newVar,newRow,J],_,rfl,h.alloc _⟩) U V
  (λv a w D ⟨b,O,h⟩=>by subst O; exact k b a w D h)
theorem Ops.fa {i:Nat} {f:Field} {b off o s:Nat} (U:P.underlying T=some (.struct fs)) (hi:fs[i]? = some f) (J:∀ w,(sizeOf f.type).run P w=.ok (s+1) w)
  (W:ev E x=some (.pointer (some ⟨b,off,none⟩))) (h:off+f.offset=o) {S:World->Prop} (D:Nat.blt d n.sz=true) (O:fresh E d=true) (k:Ops P ops l n ((d,.pointer (some ⟨b,o,none⟩)) :: E) S Q) :
  Ops P ops (⟨some d,.fieldAddr T x i,ty,pos,af,none⟩ :: l) n E S Q:=
 Ops.val rfl rfl (λ_ w V _=>by
  have e:(⟨b,off,none⟩:Addr).add f.offset=⟨b,o,none⟩:=by rw[<-h]; unfold Addr.add; split <;> simp_all
  simp[execOp,V.eval W,Instr.fieldAt,run_underlying U,hi,Instr.sureAddr,fieldPlace,J,e]) D O k
theorem Ops.load1 {b off:Nat} {cs:List Value} {v:Value} (W:∀ w,(isAgg T).run P w=.ok false w) (hx:ev E x=some (.pointer (some ⟨b,off,none⟩)))
  (Z:Del m (pto b (.cells cs.toArray T' fz)) m') (D:cs[off]? = some v) (U:Nat.blt d n.sz=true) (V:fresh E d=true) (k:Ops P ops l n ((d,v) :: E) (Sym w0 M I0 I m) Q) :
  Ops P ops (⟨some d,.load T x,ty,pos,af,none⟩ :: l) n E (Sym w0 M I0 I m) Q:=
 Ops.val rfl rfl (λ_ w O J=>by have h:=(J.del Z).pto;simp[execOp,O.eval hx,QY (P:=P) W ((N2 h).trans (by simpa using D))]) U V k
theorem Ops.loadA {b off s:Nat} {cs vs:List Value} (hT:∀ w,(isAgg T).run P w=.ok true w) (W:∀ w,(sizeOf T).run P w=.ok s w) (hx:ev E x=some (.pointer (some ⟨b,off,none⟩)))
  (O:Del m (pto b (.cells cs.toArray T' fz)) m') (V:Cut cs off vs) (hl:vs.length=s) (J:Nat.blt d n.sz=true) (hf:fresh E d=true) (k:Ops P ops l n ((d,.agg vs.toArray) :: E) (Sym w0 M I0 I m) Q) :
  Ops P ops (⟨some d,.load T x,ty,pos,af,none⟩ :: l) n E (Sym w0 M I0 I m) Q:=
 Ops.val rfl rfl (λ_ w D Z=>by have h:=(Z.del O).pto;simp[execOp,D.eval hx,L5 (P:=P) hT W hl (λj v U=>(N2 h).trans (by simpa using V.get j v U))]) J hf k
theorem Ops.loadW {b s:Nat} {cs:List Value} (hT:∀ w,(isAgg T).run P w=.ok true w) (V:∀ w,(sizeOf T).run P w=.ok s w) (hx:ev E x=some (.pointer (some ⟨b,0,none⟩)))
  (O:Del m (pto b (.cells cs.toArray T' fz)) m') (Z:cs.length=s) (J:Nat.blt d n.sz=true) (hf:fresh E d=true) (k:Ops P ops l n ((d,.agg cs.toArray) :: E) (Sym w0 M I0 I m) Q) :
  Ops P ops (⟨some d,.load T x,ty,pos,af,none⟩ :: l) n E (Sym w0 M I0 I m) Q:=
 Ops.val rfl rfl (λ_ w D W=>by have h:=(W.del O).pto;simp[execOp,D.eval hx,L5 (P:=P) hT V Z (λj _ U=>(N2 (off:=0+j) h).trans (by rw[aT]; simpa using U))]) J hf k
theorem setRow_other {g i:Nat} {c:Array Value} (h:i≠g):(w.setRow g c).heap[i]? = w.heap[i]?:=by simp only[World.setRow,AnP];rw[if_neg (by omega)]
theorem Sym.store {b off:Nat} {cs vs:List Value} (h:Sym w0 M I0 I (Fw.pto b (.cells cs.toArray T' (0,0)) :: m) w) (hp:PutC cs off vs cs') (U:KE vs=true) :
  ∃ w',(storeCells ⟨b,off,none⟩ vs).run P w=.ok () w'∧Sym w0 M I0 I (Fw.pto b (.cells cs'.toArray T' (0,0)) :: m) w':=by
 have⟨J,O⟩:=hp.eq;have D:=h.pto;have V:=run_storeCells_at (P:=P) b off T' vs 0 cs.toArray w D (by simpa using O) (TJ U);refine⟨_,V,h.upd rfl rfl rfl rfl (by simp[World.setRow]) (λ_ hk=>setRow_other hk) ?_⟩;rw[setRow_heap w b _ _ T' _ D];simp[J]
theorem Sym.reAt {A B:HA} (U:At m A m' B) (h:Sym w0 M I0 I m w) {w':World} (D:∀ r,Sym w0 M I0 I (A :: r) w->Sym w0 M I0 I (B :: r) w'):Sym w0 M I0 I m' w':=by have⟨r,J,O⟩:=U.del;exact(D r (h.del J)).undel O
theorem Ops.storeA {b off s:Nat} {cs vs:List Value} (U:∀ w,(sizeOf T).run P w=.ok s w) (hx:ev E x=some (.pointer (some ⟨b,off,none⟩))) (W:ev E y=some (.agg vs.toArray))
  (J:At m (pto b (.cells cs.toArray T' (0,0))) m' (pto b (.cells cs'.toArray T' (0,0)))) (O:PutC cs off vs cs') (Z:vs.length=s) (h1:KE vs=true)
  (k:Ops P ops l n E (Sym w0 M I0 I m') Q):Ops P ops (⟨none,.store T x y,ty,pos,af,none⟩ :: l) n E (Sym w0 M I0 I m) Q:=
 Ops.act rfl rfl (λ_ w D V=>by have⟨_,h2,h3⟩:=J.del;have⟨w',hr,h⟩:=(V.del h2).store (P:=P) O h1;refine⟨w',?_,h.undel h3⟩;simp[execOp,D.eval hx,D.eval W,Instr.storeAt,Instr.sureAddr,storeVar,U,Value.cells,Z,hr]) k
theorem Ops.store1 {b off:Nat} {cs:List Value} {v:Value} (W:∀ w,(sizeOf T).run P w=.ok 1 w) (hx:ev E x=some (.pointer (some ⟨b,off,none⟩))) (Z:ev E y=some v)
  (U:At m (pto b (.cells cs.toArray T' (0,0))) m' (pto b (.cells cs'.toArray T' (0,0)))) (V:PutC cs off [v] cs') (O:one v=true)
  (k:Ops P ops l n E (Sym w0 M I0 I m') Q):Ops P ops (⟨none,.store T x y,ty,pos,af,none⟩ :: l) n E (Sym w0 M I0 I m) Q:=
 Ops.act rfl rfl (λ_ w J hs=>by
  have⟨_,h2,h3⟩:=U.del;have⟨w',hr,D⟩:=(hs.del h2).store (P:=P) V (by simp[KE,O]);refine⟨w',?_,D.undel h3⟩;have h:v.cells = #[v]:=by cases v <;> first | rfl | cases O
  simp[execOp,J.eval hx,J.eval Z,Instr.storeAt,Instr.sureAddr,storeVar,W,h,hr]) k
def ImC (I:IH) (b off:Nat) (cs:List Value):Prop:=∃ c t fz,I b=some (.cells c t fz)∧∀ j v,cs[j]? = some v->c[off+j]? = some v
theorem ImC.mono {I J:IH} {b off:Nat} {cs:List Value} (h:ImC I b off cs) (D:I.le J):ImC J b off cs:=by have⟨c,t,fz,O,U⟩:=h;exact⟨c,t,fz,D _ _ O,U⟩
theorem ImC.cell {b off j:Nat} {cs:List Value} {v:Value} (h:ImC I b off cs) (D:Sym w0 M I0 I m w) (U:cs[j]? = some v):w.cell? ⟨b,off+j,none⟩=some v:=by have⟨_,_,_,O,J⟩:=h;rw[N2 (D.imm _ _ O)];exact J j v U
theorem Ops.ld1 {b off o j:Nat} {cs:List Value} {v:Value} (W:∀ w,(isAgg T).run P w=.ok false w) (U:ImC I b off cs) (hx:ev E x=some (.pointer (some ⟨b,o,none⟩))) (h:o=off+j) (J:cs[j]? = some v)
  (D:Nat.blt d n.sz=true) (V:fresh E d=true) (k:Ops P ops l n ((d,v) :: E) (Sym w0 M I0 I m) Q) :
  Ops P ops (⟨some d,.load T x,ty,pos,af,none⟩ :: l) n E (Sym w0 M I0 I m) Q:=
 Ops.val rfl rfl (λ_ w Z O=>by subst h;simp[execOp,Z.eval hx,QY (P:=P) W (U.cell O J)]) D V k
theorem Ops.ldW {b off s:Nat} {cs:List Value} (W:∀ w,(isAgg T).run P w=.ok true w) (D:∀ w,(sizeOf T).run P w=.ok s w) (O:ImC I b off cs) (hx:ev E x=some (.pointer (some ⟨b,off,none⟩)))
  (U:cs.length=s) (h:Nat.blt d n.sz=true) (V:fresh E d=true) (k:Ops P ops l n ((d,.agg cs.toArray) :: E) (Sym w0 M I0 I m) Q) :
  Ops P ops (⟨some d,.load T x,ty,pos,af,none⟩ :: l) n E (Sym w0 M I0 I m) Q:=
 Ops.val rfl rfl (λ_ w Z J=>by simp[execOp,Z.eval hx,L5 (P:=P) W D U (λ_ _ hi=>O.cell J hi)]) h V k
theorem Ops.field1 {i:Nat} {f:Field} {cs:List Value} {v:Value} {S:World->Prop} (O:P.underlying T=some (.struct fs)) (hi:fs[i]? = some f) (U:∀ w,(isAgg f.type).run P w=.ok false w)
  (W:ev E x=some (.agg cs.toArray)) (h:cs[f.offset]? = some v) (D:Nat.blt d n.sz=true) (J:fresh E d=true) (k:Ops P ops l n ((d,v) :: E) S Q) :
  Ops P ops (⟨some d,.field T x i,ty,pos,af,none⟩ :: l) n E S Q:=
 Ops.val rfl rfl (λ_ w V _=>by simp[execOp,V.eval W,Instr.field,run_underlying O,hi,asAgg,part,U,h]) D J k
def cellsOf:Value->List Value
 | .agg cs=>cs.toList
 | v=>[v]
theorem TK (v:Value):v.cells=(cellsOf v).toArray:=by cases v <;> simp[Value.cells,cellsOf]
inductive nY (fs:Array Field) (E:DF):List Value→List (Nat×Operand)→List Value→Prop
 | n {z:List Value}:nY fs E z [] z
 | c {z z' cs vs:List Value} {i:Nat} {x:Operand} {r:List (Nat×Operand)} {f:Field} {v:Value} (hi:fs[i]? = some f) (hx:ev E x=some v) (hv:cellsOf v=vs) (hp:PutC z f.offset vs z') (k:nY fs E z' r cs) :
  nY fs E z ((i,x) :: r) cs
theorem kD:∀ (vs:List Value) (off j:Nat) (z:Array Value),off+j+vs.length<=z.size ->
  ((vs.zipIdx j).foldl (λcs (p:Value×Nat)=>cs.setIfInBounds (off+p.2) p.1) z)=(z.toList.take (off+j)++vs++z.toList.drop (off+j+vs.length)).toArray
 | [],off,j,z,_=>by simp
 | v :: vs,off,j,z,h=>by simp only[gY] at h;rw[List.zipIdx_cons,aS,kD vs off (j+1) _ (by simp; omega)];congr 1;have e:=list_seg_step z.toList (off+j) v vs (by simp; omega);grind
theorem As6 {places:Array (Nat×Nat)} (O:∀ (i:Nat) (f:Field),fs[i]? = some f->∃ s,places[i]? = some (f.offset,s)) {ev':Operand->Value} :
  ∀ {z:List Value} {r:List (Nat×Operand)} {cs:List Value},nY fs E z r cs->(∀ x v,ev E x=some v->ev' x=v) ->
   (∀ (i:Nat) (x:Operand) (f:Field) (s:Nat),(i,x)∈r->fs[i]? = some f->places[i]? = some (f.offset,s)->(cellsOf (ev' x)).length=s) ->
   Instr.fill (places[·]?) z.toArray (r.map λp=>(p.1,ev' p.2))=some cs.toArray:=by
 intro z r cs h
 induction h with
 | n=>intros; rfl
 | @c z Z cs vs i x r f v hi hx W hp k ih=>
  intro he hs;have⟨s,D⟩:=O i f hi;have J:=hs i x f s (by simp) hi D;rw[he x v hx,W] at J;have⟨U,_⟩:=hp.eq;have V:(ev' x).cells=vs.toArray:=by grind[TK]
  simp only[P9,Instr.fill,D,V];rw[if_neg (by simp; omega)]
  have e2:vs.toArray.zipIdx.foldl (λcs (p:Value×Nat)=>cs.setIfInBounds (f.offset+p.2) p.1) z.toArray=Z.toArray:=by rw[<-AiC,AnS];rw[kD vs f.offset 0 z.toArray (by simp; omega)];simp[U]
  grind
def AaN (P:Program) (E:DF) (fs:Array Field):List (Nat×Operand)->Prop
 | []=>True
 | p :: r=>(∃ f v,fs[p.1]? = some f∧ev E p.2=some v∧P.cellsOf f.type=(cellsOf v).length)∧AaN P E fs r
theorem AgA {fs:List Field}:∀ w,(∀ f∈fs,(P.info? f.type).isSome=true) ->
  (fs.mapM λf=>(do pure (f.offset,<-sizeOf f.type):Sem (Nat×Nat))).run P w=.ok (fs.map λf=>(f.offset,P.cellsOf f.type)) w:=by
 induction fs with
 | nil=>intro w _; rfl
 | cons f fs J=>
  intro w h
  have D:(sizeOf f.type).run P w=.ok (P.cellsOf f.type) w:=by have⟨_,hi⟩:=Option.isSome_iff_exists.1 (h f (by simp));simp[sizeOf,typeInfo,hi,Program.cellsOf]
  simp_all
theorem Ad5 (h:∀ f∈fs.toList,(P.info? f.type).isSome=true) (w:World) :
  (fs.mapM λf=>(do pure (f.offset,<-sizeOf f.type):Sem (Nat×Nat))).run P w=.ok (fs.toList.map λf=>(f.offset,P.cellsOf f.type)).toArray w:=by
 rw[AuI];have:=AgA (P:=P) w h;simp_all
theorem Ops.build {S:World->Prop} {z:List Value} {h:List (Nat×Operand)} {cs:List Value} (hz:∀ w,(zeroValue T).run P w=.ok (.agg z.toArray) w) (V:P.underlying T=some (.struct fs))
  (hI:(P.fieldsOf T).toList.all (λf=>(P.info? f.type).isSome)=true) (U:nY fs E z h cs) (hS:AaN P E fs h) (Z:Nat.blt d n.sz=true) (hf:fresh E d=true) (k:Ops P ops l n ((d,.agg cs.toArray) :: E) S Q) :
  Ops P ops (⟨some d,.build T h.toArray,ty,pos,af,none⟩ :: l) n E S Q:=
 Ops.val rfl rfl (λa w W _=>by
  have D:=As6 (places:=(fs.toList.map λf=>(f.offset,P.cellsOf f.type)).toArray) (E:=E) (ev':=a.eval) (λi f hi=>⟨P.cellsOf f.type,by
    have:fs.toList[i]? = some f:=by simpa using hi
    simp[this]⟩) U (λx v hx=>W.eval hx) (λi x f s J hi _=>by
    have hs:P.cellsOf f.type=s:=by grind
    rw[<-hs];clear U k
    induction h with
    | nil=>cases J
    | cons p r ih=>
     have⟨⟨_,v,h1,h2,h3⟩,h4⟩:=hS
     cases J with
     | head=>rw[W.eval h2]; rw[hi] at h1; cases h1; exact h3.symm
     | tail _ J=>exact ih h4 J)
  have O:∀ f∈fs.toList,(P.info? f.type).isSome=true:=by
   have e0:P.fieldsOf T=fs:=by simp[Program.fieldsOf,V]
   grind
  simp only[execOp,Instr.build,Sem.run_bind,hz,Result.andThen_ok,run_underlying V,Value.cells,Ad5 O];have e:(Array.map (λ(x:Nat×Operand)=>(x.1,a.eval x.2)) h.toArray).toList=h.map λp=>(p.1,a.eval p.2):=by simp
  rw[show(Array.map (λx=>match x with | (i,x)=>(i,a.eval x)) h.toArray).toList=h.map λp=>(p.1,a.eval p.2) from e,D];simp) Z hf k
end
section
variable {w0 w:World} {M:Nat→Prop} {I0 I:IH} {m m':List HA}
variable {P:Program} {n:FrK} {E:DF} {Q:Exit→Act→World→Prop} {ops:Array Oper} {l:List Oper}
variable {d ty:Nat} {pos:String} {af:Array Edge} {T e:TypeId} {x y:Operand}
variable {T':TypeId}
structure EB (α:Type) where
 sz:Nat
 rep:IH→List Value→α→Prop
 mono:∀ {I J:IH} {cs:List Value} {x:α},I.le J→rep I cs x→rep J cs x
 len:∀ {I:IH} {cs:List Value} {x:α},rep I cs x→cs.length=sz
 one:∀ {I:IH} {cs:List Value} {x:α},rep I cs x→KE cs=true
def EW {α:Type} (sz:Nat) (enc:α->List Value) (h:∀ x,(enc x).length=sz∧KE (enc x)=true):EB α where
 sz:=sz
 rep _ cs x:=cs=enc x
 mono _ h:=h
 len h':=by rw[h']; exact(h _).1
 one h':=by rw[h']; exact(h _).2
variable {α:Type} {El:EB α} {xs ys:List α} {a:Option Addr} {cap:Nat}
def RepSl (El:EB α) (I:IH) (a:Option Addr) (cap:Nat) (xs:List α):Prop:=
 xs.length<=cap∧∀ i x,xs[i]? = some x->∃ b off cs,a=some ⟨b,off,none⟩∧ImC I b (off+i*El.sz) cs∧El.rep I cs x
theorem RepSl.mono {J:IH} (h:RepSl El I a cap xs) (D:I.le J):RepSl El J a cap xs:=
 ⟨h.1,λi x W=>let ⟨b,off,cs,U,V,O⟩:=h.2 i x W; ⟨b,off,cs,U,V.mono D,El.mono D O⟩⟩
theorem RepSl.nil (I:IH) (a:Option Addr) (cap:Nat):RepSl El I a cap []:=⟨sU _,λ_ _ h=>by simp at h⟩
def nZ (El:EB α):EB (List α) where
 sz:=1
 rep I cs xs:=∃ a cap,cs=[.slice a xs.length cap]∧RepSl El I a cap xs
 mono hle:=λ⟨a,cap,h1,h2⟩=>⟨a,cap,h1,h2.mono hle⟩
 len:=λ⟨a,cap,h1,_⟩=>by rw[h1]; rfl
 one:=λ⟨a,cap,h1,_⟩=>by rw[h1]; rfl
def OwnSl (El:EB α) (T:TypeId) (a:Option Addr) (cap:Nat) (xs:List α):HA where
 holds I h:=(a=none∧xs=[]∧cap=0)∨∃ b c,a=some ⟨b,0,none⟩∧h b=some (.cells c T (0,0))∧xs.length<=cap∧c.size=cap*El.sz ∧
  ∀ i x,xs[i]? = some x->∃ cs,El.rep I cs x∧∀ j v,cs[j]? = some v->c[i*El.sz+j]? = some v
 mono:=λhI hh=>fun
  | .inl h=>.inl h
  | .inr ⟨b,c,h1,h2,h3,h4,h5⟩=>.inr ⟨b,c,h1,hh _ _ h2,h3,h4,λi x hx=>let ⟨cs,g1,g2⟩:=h5 i x hx; ⟨cs,El.mono hI g1,g2⟩⟩
theorem Sym.own0 (h:Sym w0 M I0 I m w) (El:EB α) (T:TypeId):Sym w0 M I0 I (OwnSl El T none 0 [] :: m) w:=by have⟨O,hi,D,k,V,hk,J,U⟩:=h;exact⟨O,hi,D,k,⟨λ_=>none,k,λ_=>.inl rfl,(λ_ _ x=>nomatch x),IH.le.refl _,.inl ⟨rfl,rfl,rfl⟩,V⟩,hk,J,U⟩
theorem Sym.pubSl (h:Sym w0 M I0 I m w) (Z:Del m (OwnSl El T a cap xs) m'):∃ J,I.le J∧RepSl El J a cap xs∧Sym w0 M I0 J m' w:=by
 have⟨J,_,D,ha,hk,hs⟩:=(h.del Z).publish;refine⟨J,D,?_,hs⟩;rcases ha with⟨V,O,U⟩ | ⟨b,c,V,O,U,h4,h5⟩
 . subst O; exact .nil _ _ _
 . refine⟨U,λi x hx=>?_⟩;have⟨cs,g1,g2⟩:=h5 i x hx;exact⟨b,0,cs,V,⟨c,T,(0,0),hk _ _ O,λj v W=>by rw[aT]; exact g2 j v W⟩,El.mono D g1⟩
theorem Ops.len {S:World->Prop} {k:Nat} {h:Array TypeId} (V:P.underlying T=some (.slice e)) (D:h[0]? = some T) (Z:ev E x=some (.slice a k cap)) (O:Nat.blt d n.sz=true) (U:fresh E d=true)
  (W:Ops P ops l n ((d,.int .i64 (k:Int)) :: E) S Q):Ops P ops (⟨some d,.call ⟨.builtin .len,#[x],h⟩,ty,pos,af,none⟩ :: l) n E S Q:=
 Ops.val rfl rfl (λ_ _ J _=>by simp[execOp,resolve,invoke,builtin,Builtin.len_,J.eval Z,D,run_underlying V,goInt]) O U W
theorem Ops.capOf {S:World->Prop} {k:Nat} {h:Array TypeId} (V:P.underlying T=some (.slice e)) (D:h[0]? = some T) (Z:ev E x=some (.slice a k cap)) (O:Nat.blt d n.sz=true) (U:fresh E d=true)
  (W:Ops P ops l n ((d,.int .i64 (cap:Int)) :: E) S Q):Ops P ops (⟨some d,.call ⟨.builtin .cap,#[x],h⟩,ty,pos,af,none⟩ :: l) n E S Q:=
 Ops.val rfl rfl (λ_ _ J _=>by simp[execOp,resolve,invoke,builtin,Builtin.cap_,J.eval Z,D,run_underlying V,goInt]) O U W
theorem Ops.ixa {S:World->Prop} {k s off b:Nat} {q:IntKind} {i:Int} (Z:P.underlying T=some (.slice e)) (U:∀ w,(sizeOf e).run P w=.ok s w) (O:ev E x=some (.slice a k cap)) (ha:a=some ⟨b,off,none⟩)
  (hy:ev E y=some (.int q i)) (h0:0<=i) (hk:i<k) (D:Nat.blt d n.sz=true) (V:fresh E d=true) (J:Ops P ops l n ((d,.pointer (some ⟨b,off+i.toNat*s,none⟩)) :: E) S Q) :
  Ops P ops (⟨some d,.indexAddr T x y,ty,pos,af,none⟩ :: l) n E S Q:=
 Ops.val rfl rfl (λ_ w h _=>by
  subst ha;have W:(⟨b,off,none⟩:Addr).add (i.toNat*s)=⟨b,off+i.toNat*s,none⟩:=by unfold Addr.add; split <;> simp_all
  simp only[execOp,Instr.indexAt,h.eval O,h.eval hy,asIntOf,Sem.run_bind,Sem.run_pure,Result.andThen_ok,run_underlying Z,h0,hk,and_self,if_true,U,W]) D V J
theorem OwnSl.cell {enc:α->List Value} {s:Nat} {U:∀ x,(enc x).length=s∧KE (enc x)=true} {b:Nat} (h:Sym w0 M I0 I m w) (O:Del m (OwnSl (EW s enc U) T' (some ⟨b,0,none⟩) cap xs) m') {i j:Nat} {v:α} {u:Value}
   (hi:xs[i]? = some v) (J:(enc v)[j]? = some u):w.cell? ⟨b,i*s+j,none⟩=some u:=by
 have⟨_,Z,hk⟩:=(h.del O).get;rcases Z with⟨D,_⟩ | ⟨b',c,D,W,h3,h4,V⟩
 . cases D
 . cases D;have⟨_,g1,g2⟩:=V i v hi;cases g1;rw[N2 (hk _ _ W)];exact g2 j u J
theorem Ops.lo1 {enc:α->List Value} {s:Nat} {W:∀ x,(enc x).length=s∧KE (enc x)=true} {b o i j:Nat} {v:α} {u:Value} (hT:∀ w,(isAgg T).run P w=.ok false w)
  (J:Del m (OwnSl (EW s enc W) T' (some ⟨b,0,none⟩) cap xs) m') (hi:xs[i]? = some v) (hx:ev E x=some (.pointer (some ⟨b,o,none⟩))) (h:o=i*s+j) (O:(enc v)[j]? = some u)
  (D:Nat.blt d n.sz=true) (Z:fresh E d=true) (k:Ops P ops l n ((d,u) :: E) (Sym w0 M I0 I m) Q):Ops P ops (⟨some d,.load T x,ty,pos,af,none⟩ :: l) n E (Sym w0 M I0 I m) Q:=
 Ops.val rfl rfl (λ_ w U V=>by subst h; simp[execOp,U.eval hx,QY (P:=P) hT (OwnSl.cell V J hi O)]) D Z k
theorem Ops.loA {enc:α->List Value} {s D:Nat} {he:∀ x,(enc x).length=s∧KE (enc x)=true} {b o i j:Nat} {v:α} {vs:List Value} (hT:∀ w,(isAgg T).run P w=.ok true w)
  (hS:∀ w,(sizeOf T).run P w=.ok D w) (U:Del m (OwnSl (EW s enc he) T' (some ⟨b,0,none⟩) cap xs) m') (hi:xs[i]? = some v) (hx:ev E x=some (.pointer (some ⟨b,o,none⟩))) (J:o=i*s+j)
  (V:Cut (enc v) j vs) (hl:vs.length=D) (O:Nat.blt d n.sz=true) (hf:fresh E d=true) (k:Ops P ops l n ((d,.agg vs.toArray) :: E) (Sym w0 M I0 I m) Q) :
  Ops P ops (⟨some d,.load T x,ty,pos,af,none⟩ :: l) n E (Sym w0 M I0 I m) Q:=
 Ops.val rfl rfl (λ_ w Z hs=>by subst J;simp[execOp,Z.eval hx,L5 (P:=P) hT hS hl (λW v' h=>by rw[yH]; exact OwnSl.cell hs U hi (V.get W v' h))]) O hf k
theorem OwnSl.put {El:EB α} {b:Nat} {i j:Nat} {v v':α} {vs:List Value} {r:List HA} (a4:Sym w0 M I0 I (OwnSl El T' (some ⟨b,0,none⟩) cap xs :: r) w)
   (hi:xs[i]? = some v) (hp:∀ cs,El.rep I cs v->∃ J,PutC cs j vs J∧El.rep I J v') (h1:KE vs=true) :
   ∃ w',(storeCells ⟨b,i*El.sz+j,none⟩ vs).run P w=.ok () w'∧Sym w0 M I0 I (OwnSl El T' (some ⟨b,0,none⟩) cap (xs.set i v') :: r) w':=by
 have⟨hb,a8,hn,k,⟨k1,k2,hd',hl1,hl2,ha,hs'⟩,hk,hdj,hm⟩:=a4;rcases ha with⟨W,_⟩ | ⟨b',c,W,h2,h3,h4,h5⟩
 . cases W
 . cases W;have a2:Sym w0 M I0 I (Fw.pto b (.cells c T' (0,0)) :: r) w:=⟨hb,a8,hn,k,⟨k1,k2,hd',hl1,hl2,h2,hs'⟩,hk,hdj,hm⟩;have⟨cs,g1,g2⟩:=h5 i v hi;have⟨J,a9,a3⟩:=hp cs g1;have⟨he,_⟩:=a9.eq;have b0:=El.len g1;have a6:i<xs.length:=(List.getElem?_eq_some_iff.1 hi).1
   have c0:i*El.sz+El.sz<=cap*El.sz:=by
     have:(i+1)*El.sz<=cap*El.sz:=wS _ (by omega)
     rwa [WL,sS] at this
   have hr:=run_storeCells_at (P:=P) b (i*El.sz+j) T' vs 0 c w a2.pto (by omega) (TJ h1);refine⟨_,hr,?_⟩;have a7:=a2.upd (o':=.cells (c.toList.take (i*El.sz+j+0)++vs++c.toList.drop (i*El.sz+j+0+vs.length)).toArray T' (0,0)) (w':=w.setRow b _) rfl rfl rfl rfl (by simp[World.setRow]) (λq hq=>Fw.setRow_other hq) (setRow_heap w b _ _ T' _ a2.pto);refine a7.weaken λq hq=>.inr ⟨b,_,rfl,hq,by simpa using h3,?_,?_⟩
   . simp; omega
   . intro h x2 O;by_cases e2:i=h
     . subst e2;rw[AkX a6] at O;cases O;refine⟨J,a3,λZ u D=>?_⟩;rw[he] at D;simp only[YH,AaH];rcases aG Z j with h6 | h6
       . rw[nP,rD (by simp; omega)] at D;rw[nP,rD (by simp; omega),rF,if_pos (by omega)];rw[rF,if_pos h6] at D;simpa using g2 Z u D
       . rcases aG Z (j+vs.length) with h7 | h7
         . rw[rD (by simp; omega),AaG (by simp; omega)] at D ⊢;simp only[QX,Ag0] at D ⊢;rw[<-D]; congr 1; omega
         . rw[AaG (by simp; omega),AkZ] at D ⊢;simp only[fC,QX,Ag0] at D ⊢;have:=g2 Z u (by rw[<-D]; congr 1; omega);rw[<-AnH] at this;rw[<-this]; congr 1; omega
     . rw[AfZ e2] at O;have⟨a5,g3,g4⟩:=h5 h x2 O;refine⟨a5,g3,λZ u D=>?_⟩;have b1:Z<El.sz:=by rw[<-El.len g3]; exact(List.getElem?_eq_some_iff.1 D).1
       have V:=g4 Z u D;rw[<-AnH] at V;simp only[YH,AaH];rcases Nat.lt_or_gt_of_ne e2 with h9 | h9
       . have U:(i+1)*El.sz<=h*El.sz:=wS _ h9;rw[WL,sS] at U;rw[AaG (by simp; omega),AkZ,<-V];simp only[fC,QX,Ag0];congr 1; omega
       . have U:(h+1)*El.sz<=i*El.sz:=wS _ h9;rw[WL,sS] at U;rw[nP,rD (by simp; omega),rF,if_pos (by omega),V]
theorem Ops.stO1 {enc:α→List Value} {s:Nat} {V:∀ x,(enc x).length=s∧KE (enc x)=true} {b o i j:Nat} {v v':α} {u:Value} (hS:∀ w,(sizeOf T).run P w=.ok 1 w)
  (hA:At m (OwnSl (EW s enc V) T' (some ⟨b,0,none⟩) cap xs) m' (OwnSl (EW s enc V) T' (some ⟨b,0,none⟩) cap (xs.set i v'))) (hi:xs[i]? = some v) (hx:ev E x=some (.pointer (some ⟨b,o,none⟩))) (Z:o=i*s+j)
  (hy:ev E y=some u) (hp:PutC (enc v) j [u] (enc v')) (W:Fw.one u=true) (k:Ops P ops l n E (Sym w0 M I0 I m') Q):Ops P ops (⟨none,.store T x y,ty,pos,af,none⟩ :: l) n E (Sym w0 M I0 I m) Q:=
 Ops.act rfl rfl (fun _ w U hs=>by
  subst Z
  obtain ⟨_,h2,h3⟩:=hA.del
  obtain ⟨w',hr,h⟩:=OwnSl.put (P:=P) (hs.del h2) hi (fun _ O=>by cases O; exact ⟨_,hp,rfl⟩) (by simp [KE,W])
  refine ⟨w',?_,h.undel h3⟩
  have D:u.cells = #[u]:=by cases u <;> first | rfl | cases W
  have J:(storeCells ⟨b,i*s+j,none⟩ [u]).run P w=.ok () w':=hr
  simp [execOp,U.eval hx,U.eval hy,Instr.storeAt,Instr.sureAddr,storeVar,hS,D,J]) k
theorem Ops.stOA {enc:α→List Value} {s W:Nat} {V:∀ x,(enc x).length=s∧KE (enc x)=true} {b o i j:Nat} {v v':α} {h:List Value} (hS:∀ w,(sizeOf T).run P w=.ok W w)
  (hA:At m (OwnSl (EW s enc V) T' (some ⟨b,0,none⟩) cap xs) m' (OwnSl (EW s enc V) T' (some ⟨b,0,none⟩) cap (xs.set i v'))) (hi:xs[i]? = some v) (hx:ev E x=some (.pointer (some ⟨b,o,none⟩))) (Z:o=i*s+j)
  (hy:ev E y=some (.agg h.toArray)) (hp:PutC (enc v) j h (enc v')) (hl:h.length=W) (h1:KE h=true) (k:Ops P ops l n E (Sym w0 M I0 I m') Q):Ops P ops (⟨none,.store T x y,ty,pos,af,none⟩ :: l) n E (Sym w0 M I0 I m) Q:=
 Ops.act rfl rfl (fun _ w U hs=>by
  subst Z
  obtain ⟨_,h2,h3⟩:=hA.del
  obtain ⟨w',hr,D⟩:=OwnSl.put (P:=P) (hs.del h2) hi (fun _ O=>by cases O; exact ⟨_,hp,rfl⟩) h1
  refine ⟨w',?_,D.undel h3⟩
  have J:(storeCells ⟨b,i*s+j,none⟩ h).run P w=.ok () w':=hr
  simp [execOp,U.eval hx,U.eval hy,Instr.storeAt,Instr.sureAddr,storeVar,hS,Value.cells,hl,J]) k
end
section
variable {w0 w:World} {M:Nat→Prop} {I0 I:IH} {m m':List HA}
variable {P:Program} {n:FrK} {E:DF} {Q:Exit→Act→World→Prop} {ops:Array Oper} {l:List Oper}
variable {d ty:Nat} {pos:String} {af:Array Edge} {T e:TypeId} {x y:Operand}
variable {α:Type} {El:EB α} {xs ys:List α} {a:Option Addr} {cap:Nat}
/-! ### s[lo:hi] -/
variable {T' sT e':TypeId} {zc:Value}
def oev (E:DF):Option Operand->Option (Option Value)
 | none=>some none
 | some x=>match ev E x with | some v=>some (some v) | none=>none
theorem O6 {c:Act} (D:Ok n E c) {x:Option Operand} {v:Option Value} (h:oev E x=some v):x.map c.eval=v:=by
 cases x with
 | none=>simp[oev] at h; simp[h]
 | some x=>
  simp only[oev] at h
  cases J:ev E x with
  | none=>rw[J] at h; cases h
  | some u=>rw[J] at h; cases h; simp[D.eval J]
theorem RepSl.slice (h:RepSl El I a cap xs) {lo hi:Nat} (V:lo<=hi) (W:hi<=xs.length):RepSl El I (if cap=lo then a else a.map (·.add (lo*El.sz))) (cap - lo) ((xs.take hi).drop lo):=by
 have Z:=h.1;refine⟨by simp; omega,λ_ _ D=>?_⟩;rw[AkZ,rF] at D;split at D
 . rename_i J;have⟨b,off,cs,U,_,O⟩:=h.2 _ _ D
   have:¬cap=lo:=by omega
   rw[if_neg this];refine⟨b,off+lo*El.sz,cs,?_,?_,O⟩
   . rw[U]; simp only[Ag3,Addr.add]; split <;> simp_all
   all_goals grind
 . cases D
theorem sV {lo hi:Option Value} {L H k s:Nat} (hT:P.underlying T=some (.slice e)) (hs:∀ w,(sizeOf e).run P w=.ok s w) (h1:L<=H) (h2:H<=k) (hk:k<=cap)
  (J:lo=none∧L=0∨∃ q i,lo=some (.int q i)∧0<=i∧i.toNat=L) (h:hi=none∧H=k∨∃ q i,hi=some (.int q i)∧0<=i∧i.toNat=H) (w:World) :
  (Instr.sliceAt T (.slice a k cap) lo hi none).run P w=.ok (.slice (if cap=L then a else a.map (·.add (L*s))) (H - L) (cap - L)) w:=by
 have D:(Instr.sliceBounds true k cap lo hi none).run P w=.ok (L,H,cap) w:=by
  simp only[Instr.sliceBounds];rcases h with⟨rfl,rfl⟩ | ⟨q,i,rfl,V,Z⟩ <;> rcases J with⟨rfl,rfl⟩ | ⟨q',U,rfl,W,O⟩
  . simp
  . have:U<=(H:Int):=by omega
    simp[Instr.sliceBound,asIntOf,W,this,O]
  . have:i<=(cap:Int):=by omega
    simp[Instr.sliceBound,asIntOf,V,this,Z]
  . have g1:i<=(cap:Int):=by omega
    have g2:U<=(H:Int):=by omega
    simp[Instr.sliceBound,asIntOf,V,g1,W,g2,Z,O]
 simp only[Instr.sliceAt,Sem.run_bind,run_underlying hT,Result.andThen_ok,Instr.slice,D,hs,Sem.run_pure]
def RepCs (El:EB α) (I:IH) (src:List Value) (ys:List α):Prop:=
 src.length=ys.length*El.sz∧(∀ i y,ys[i]? = some y->∃ cs,El.rep I cs y∧∀ j v,cs[j]? = some v->src[i*El.sz+j]? = some v)∧KE src=true
theorem pT {a b:List Value} (h:KE a=true) (k:KE b=true):KE (a++b)=true:=by
 induction a with
 | nil=>exact k
 | cons v a D=>simp only[KE,aR,nV] at h ⊢; exact⟨h.1,D h.2⟩
theorem RepCs.nil:RepCs El I [] ([]:List α):=⟨by simp,λ_ _ h=>by simp at h,rfl⟩
theorem RepCs.cons {cs src:List Value} {v:α} {vs:List α} (h:El.rep I cs v) (k:RepCs El I src vs):RepCs El I (cs++src) (v :: vs):=by
 have D:=El.len h;refine⟨by simp[k.1,D,WL,yI],λi y O=>?_,pT (El.one h) k.2.2⟩
 cases i with
 | zero=>
  grind
 | succ i=>
  have⟨_,_,_⟩:=k.2.1 i y (by simpa using O);grind
theorem RepCs.one {cs:List Value} {v:α} (h:El.rep I cs v):RepCs El I cs [v]:=by have:=RepCs.cons h (RepCs.nil (El:=El) (I:=I)); grind
def Src (P:Program) (El:EB α) (I:IH) (S:World->Prop) (v:Value) (ys:List α):Prop:=
 (∃ b k c,v=.slice b k c∧k=ys.length)∧∃ src,RepCs El I src ys∧∀ w,S w->∀ w':World,w'.heap=w.heap->(Builtin.firstCells El.sz ys.length v).run P w'=.ok src.toArray w'
theorem Src.imm {k:Nat} (hR:RepSl El I a cap ys) (hk:k=ys.length):Src P El I (Sym w0 M I0 I m) (.slice a k cap) ys:=by
 subst hk;refine⟨⟨_,_,_,rfl,rfl⟩,?_⟩
 suffices H:∀ (J:List α) (o:Nat),(∀ i x,J[i]? = some x->∃ b off cs,a=some ⟨b,off,none⟩∧ImC I b (off+(o+i)*El.sz) cs∧El.rep I cs x) ->
    ∃ src,RepCs El I src J∧∀ w,Sym w0 M I0 I m w->∀ j v,src[j]? = some v->∃ b off,a=some ⟨b,off,none⟩∧w.cell? ⟨b,off+o*El.sz+j,none⟩=some v by
  have⟨src,O,h2⟩:=H ys 0 (λi x Z=>by simpa using hR.2 i x Z);refine⟨src,O,λw1 V w a2=>?_⟩
  cases a with
  | none=>
    cases ys with
    | nil=>have:=O.1; simp at this; subst this; simp[Builtin.firstCells]
    | cons y ys=>have⟨_,_,_,g,_⟩:=hR.2 0 y (by simp); cases g
  | some p=>
    simp only[Builtin.firstCells];rw[<-O.1];refine run_loadCells_list w p src λj v U=>?_;have⟨b,off,W,D⟩:=h2 w1 V j v U;have a3:w.cell? ⟨b,off+0*El.sz+j,none⟩=some v:=by simp only[World.cell?,a2]; exact D
    clear D; have D:=a3;cases W;rw[Ag7,YH] at D;have e2:(⟨b,off,none⟩:Addr).add j=⟨b,off+j,none⟩:=by unfold Addr.add; split <;> simp_all
    rw[e2]; exact D
 intro J
 induction J with
 | nil=>exact λo _=>⟨[],.nil,λw _ j v h=>by simp at h⟩
 | cons z J ih=>
  intro o h
  have⟨src,O,h2⟩:=ih (o+1) (λi x Z=>by
    have:=h (i+1) x (by simpa using Z)
    rwa [show o+(i+1)=o+1+i by omega] at this)
  have⟨b,off,cs,W,D,g3⟩:=h 0 z (by simp);refine⟨cs++src,.cons g3 O,λw V j v U=>?_⟩;have hl:=El.len g3;rcases aG j cs.length with h4 | h4
  . rw[rD h4] at U;exact⟨b,off,W,by simpa using D.cell V U⟩
  all_goals grind
theorem Src.box {b:Nat} {src:List Value} {k:Nat} (U:Del m (Fw.pto b (.cells src.toArray T' (0,0))) m') (J:RepCs El I src ys) (hk:k=ys.length) :
  Src P El I (Sym w0 M I0 I m) (.slice (some ⟨b,0,none⟩) k cap) ys:=by
 subst hk;refine⟨⟨_,_,_,rfl,rfl⟩,src,J,λ_ O w D=>?_⟩;simp only[Builtin.firstCells];rw[<-J.1];refine run_loadCells_list w _ src λj _ V=>?_;have e:(⟨b,0,none⟩:Addr).add j=⟨b,j,none⟩:=by unfold Addr.add; split <;> simp_all
 have h:=(O.del U).pto;rw[<-D] at h;rw[e,N2 h]; simpa using V
theorem AaO {z:Array Value} {s:Nat} (k:Nat) (h:z.size=s):(Builtin.zeroCells z k).size=k*s:=by simp[Builtin.zeroCells,h]
theorem N3 {ty':TypeId} {k kv cv:Nat} {bv:Option Addr} {src:Array Value} {s:Nat} {w':World} (V:P.underlying sT=some (.slice e)) (O:P.underlying T'=some (.slice e')) (J:∀ w,(sizeOf e).run P w=.ok s w)
  (D:k+kv<=cap) (h:(Builtin.firstCells s kv (.slice bv kv cv)).run P w=.ok src w) (Z:∀ p,a=some p->(storeCells (p.add (k*s)) src.toList).run P w=.ok () w') (W:a=none->w'=w) :
  (Builtin.append_ #[sT,T'] ty' #[.slice a k cap,.slice bv kv cv]).run P w=.ok (.slice a (k+kv) cap) w':=by
 have U:∀ w,(Builtin.lenOf (.slice bv kv cv)).run P w=.ok kv w:=λw=>rfl
 cases a with
 | none=>simp[Builtin.append_,run_underlying V,run_underlying O,J,U,D,h,W rfl]
 | some p=>simp[Builtin.append_,run_underlying V,run_underlying O,J,U,D,h,Z p rfl]
theorem sW {ty':TypeId} {k kv cv:Nat} {bv:Option Addr} {src old:Array Value} {s B:Nat} {i:TypeInfo} (hT:P.underlying sT=some (.slice e)) (a2:P.underlying T'=some (.slice e')) (hi:P.info? e=some i)
  (hs:i.size=s) (hB:i.bytes=B) (hz:i.zero=some zc) (h:¬k+kv<=cap) (U:(k+kv)*B<=140737488355328) (a5:((k+kv:Nat):Int)<=9223372036854775807)
  (J:∀ w':World,w'.heap=w.heap->(Builtin.firstCells s k (.slice a k cap)).run P w'=.ok old w') (O:∀ w':World,w'.heap=w.heap->(Builtin.firstCells s kv (.slice bv kv cv)).run P w'=.ok src w') :
  ∃ c W,k+kv<=c∧w.drawn<=W∧(Builtin.append_ #[sT,T'] ty' #[.slice a k cap,.slice bv kv cv]).run P w =
   .ok (.slice (some ⟨w.heap.size,0,none⟩) (k+kv) c) (({ w with drawn:=W }:World).alloc (.cells (old++src++Builtin.zeroCells zc.cells (c - (k+kv))) e)):=by
 have V:∀ w,(sizeOf e).run P w=.ok s w:=λw=>by simp[sizeOf,typeInfo,hi,hs]
 have D:∀ w,(typeInfo e).run P w=.ok i w:=λw=>by simp[typeInfo,hi]
 have a3:∀ w,(zeroValue e).run P w=.ok zc w:=λw=>by simp[zeroValue,D,hz]
 have a4:=growslice_fits (Nat.lt_of_not_le h) U;have hl:∀ w,(Builtin.lenOf (.slice bv kv cv)).run P w=.ok kv w:=λw=>rfl;have g1:¬(281474976710656<Builtin.nextslicecap (k+kv) cap*B):=by omega
 have g2:¬(9223372036854775807<(k:Int)+(kv:Int)):=by omega
 have hq:(Question.appendCap (k+kv) cap e).forced=false:=rfl;refine⟨(Question.appendCap (k+kv) cap e).cut (w.tape w.drawn (Question.appendCap (k+kv) cap e)),w.drawn+1,Nat.le_add_right _ _,AiR _,?_⟩;have Z:IntKind.i64.max=9223372036854775807:=rfl;have ho:=J w.drew rfl;have hr:=O w.drew rfl;simp only[Builtin.append_,AaH,AnE,AnN,Sem.run_bind,run_underlying hT,run_underlying a2,Result.andThen_ok,Sem.run_pure,V,hl,h,if_false,AaJ,D,hB,g1,g2,false_and,false_or,Z,Int.natCast_add];simp[run_choose,hq,ho,hr,a3,newRow]
theorem Sym.appendNew {ty':TypeId} {r:List HA} {B:Nat} {i:TypeInfo} (a4:Sym w0 M I0 I r w)
   (hT:P.underlying sT=some (.slice e)) (a6:P.underlying T'=some (.slice e')) (hi:P.info? e=some i) (b0:i.size=El.sz) (hB:i.bytes=B) (hz:i.zero=some zc) (b1:zc.cells.size=El.sz)
   {bv:Option Addr} {cv:Nat} {src:List Value} (D:RepCs El I src ys) (O:∀ w':World,w'.heap=w.heap->(Builtin.firstCells El.sz ys.length (.slice bv ys.length cv)).run P w'=.ok src.toArray w')
   (U:(xs.length+ys.length)*B<=140737488355328) (a5:B=0->xs.length+ys.length<=140737488355328) (c1:¬xs.length+ys.length<=cap)
   (a3:∃ old:List Value,(∀ w':World,w'.heap=w.heap->(Builtin.firstCells El.sz xs.length (.slice a xs.length cap)).run P w'=.ok old.toArray w')∧old.length=xs.length*El.sz ∧
      ∀ i x,xs[i]? = some x->∃ cs,El.rep I cs x∧∀ j v,cs[j]? = some v->old[i*El.sz+j]? = some v) :
   ∃ V J w',(Builtin.append_ #[sT,T'] ty' #[.slice a xs.length cap,.slice bv ys.length cv]).run P w=.ok (.slice V (xs++ys).length J) w'∧Sym w0 M I0 I (OwnSl El e V J (xs++ys) :: r) w':=by
 rw[fC];have⟨old,a8,a9,_⟩:=a3
 have c0:((xs.length+ys.length:Nat):Int)<=9223372036854775807:=by
   by_cases hB0:B=0
   . have:=a5 hB0; omega
   . have:xs.length+ys.length<=(xs.length+ys.length)*B:=Nat.le_mul_of_pos_right _ (Nat.pos_of_ne_zero hB0);omega
 have⟨c,dr,hc,a7,hr⟩:=sW (w:=w) (ty':=ty') (bv:=bv) (cv:=cv) hT a6 hi b0 hB hz c1 U c0 a8 O;refine⟨_,_,_,hr,?_⟩;refine((a4.drew dr a7).alloc _).weaken λ_ hq=>.inr ⟨_,_,rfl,hq,by simpa using hc,?_,?_⟩
 . have a2:=AaO (c - (xs.length+ys.length)) b1;simp only[Array.size_append,AnW,a9,D.1,a2];rw[<-WL,<-WL]; congr 1; omega
 . intro h x2 Z;rcases aG h xs.length with W | W
   . grind
   . rw[AaG W] at Z;have⟨cs,g3,g4⟩:=D.2.1 _ x2 Z;refine⟨cs,g3,λj u hj=>?_⟩;have h7:=g4 j u hj;have h8:=(List.getElem?_eq_some_iff.1 h7).1;have e3:h*El.sz=xs.length*El.sz+(h - xs.length)*El.sz:=by rw[<-WL]; congr 1; omega
     grind
theorem Sym.append {ty':TypeId} {v:Value} {r:List HA} {B:Nat} {i:TypeInfo} (h:Sym w0 M I0 I (OwnSl El e a cap xs :: r) w)
   (hT:P.underlying sT=some (.slice e)) (a5:P.underlying T'=some (.slice e')) (hi:P.info? e=some i) (b1:i.size=El.sz) (hB:i.bytes=B) (hz:i.zero=some zc) (d7:zc.cells.size=El.sz)
   (hv:∃ b k c,v=.slice b k c∧k=ys.length) {src:List Value} (D:RepCs El I src ys) (a4:∀ w':World,w'.heap=w.heap->(Builtin.firstCells El.sz ys.length v).run P w'=.ok src.toArray w')
   (e4:(xs.length+ys.length)*B<=140737488355328) (d0:B=0->xs.length+ys.length<=140737488355328) {k:Nat} (hk:k=xs.length) :
   ∃ a' a2 w',(Builtin.append_ #[sT,T'] ty' #[.slice a k cap,v]).run P w=.ok (.slice a' (xs++ys).length a2) w'∧Sym w0 M I0 I (OwnSl El e a' a2 (xs++ys) :: r) w'∧(xs.length+ys.length<=cap->a'=a∧a2=cap):=by
 subst hk;obtain⟨_,_,_,rfl,rfl⟩:=hv;have b0:∀ w,(sizeOf e).run P w=.ok El.sz w:=λw=>by simp[sizeOf,typeInfo,hi,b1]
 have⟨_,a8,e2⟩:=h.get;rw[fC];by_cases hfit:xs.length+ys.length<=cap
 . -- there is room
   rcases a8 with⟨J,O,V⟩ | ⟨b,c,J,O,V,h4,h5⟩
   . subst J O V;have hy:ys=[]:=ArT (by simpa using hfit);subst hy;exact⟨none,0,w,N3 hT a5 b0 hfit (a4 w rfl) (λp hp=>by cases hp) (λ_=>rfl),h,λ_=>⟨rfl,rfl⟩⟩
   . subst J;have⟨hb,d9,hn,kk,⟨g1,g2,hd',hl1,hl2,ha,hs'⟩,hkk,hdj,hm⟩:=h;rcases ha with⟨a6,_⟩ | ⟨b',c',a6,c0,e6,c1,c2⟩
     . cases a6
     cases a6;have a7:Sym w0 M I0 I (Fw.pto b (.cells c' e (0,0)) :: r) w:=⟨hb,d9,hn,kk,⟨g1,g2,hd',hl1,hl2,c0,hs'⟩,hkk,hdj,hm⟩;have e7:xs.length*El.sz+ys.length*El.sz<=cap*El.sz:=by rw[<-WL]; exact wS _ hfit
     have hr:=run_storeCells_at (P:=P) b (xs.length*El.sz) e src 0 c' w a7.pto (by rw[c1,D.1]; omega) (TJ D.2.2);have e1:(⟨b,0,none⟩:Addr).add (xs.length*El.sz)=⟨b,xs.length*El.sz,none⟩:=by unfold Addr.add; split <;> simp_all
     refine⟨some ⟨b,0,none⟩,cap,_,N3 hT a5 b0 hfit (a4 w rfl) (λp hp=>by cases hp; rw[e1]; exact hr) (λh=>by cases h),?_,λ_=>⟨rfl,rfl⟩⟩;have d5:=a7.upd (o':=.cells (c'.toList.take (xs.length*El.sz+0)++src++c'.toList.drop (xs.length*El.sz+0+src.length)).toArray e (0,0)) (w':=w.setRow b _) rfl rfl rfl rfl (by simp[World.setRow]) (λq hq=>Fw.setRow_other hq) (setRow_heap w b _ _ e _ a7.pto);refine d5.weaken λq hq=>.inr ⟨b,_,rfl,hq,by simpa using hfit,?_,?_⟩
     . simp[D.1]; omega
     . intro W x2 a3;simp only[YH,AaH];rcases aG W xs.length with h6 | h6
       . rw[rD h6] at a3;have⟨cs,Z,g4⟩:=c2 W x2 a3;refine⟨cs,Z,λj u U=>?_⟩;have d3:j<El.sz:=by rw[<-El.len Z]; grind
         have a9:(W+1)*El.sz<=xs.length*El.sz:=wS _ h6;grind
       . rw[AaG h6] at a3;have⟨cs,Z,g4⟩:=D.2.1 _ x2 a3;refine⟨cs,Z,λj u U=>?_⟩;have h7:=g4 j u U;have h8:=(List.getElem?_eq_some_iff.1 h7).1;have e3:W*El.sz=xs.length*El.sz+(W - xs.length)*El.sz:=by rw[<-WL]; congr 1; omega
         rw[nP,AaG (by simp; omega),rD (by simp; omega),<-h7];grind
 . -- a new array
   have e5:∃ old:List Value,(∀ w':World,w'.heap=w.heap->(Builtin.firstCells El.sz xs.length (.slice a xs.length cap)).run P w'=.ok old.toArray w')∧old.length=xs.length*El.sz ∧
       ∀ i x,xs[i]? = some x->∃ cs,El.rep I cs x∧∀ j v,cs[j]? = some v->old[i*El.sz+j]? = some v:=by
     rcases a8 with⟨J,O,V⟩ | ⟨b,c,J,O,V,h4,h5⟩
     . subst J O V; exact⟨[],λw' _=>by simp[Builtin.firstCells],by simp,λi x h=>by simp at h⟩
     . subst J;have d8:xs.length*El.sz<=c.size:=by rw[h4]; exact wS _ V
       refine⟨c.toList.take (xs.length*El.sz),λw' d6=>?_,by simp; omega,λi x hx=>?_⟩
       . simp only[Builtin.firstCells];have d4:(c.toList.take (xs.length*El.sz)).length=xs.length*El.sz:=by rw[QX]; exact Ao4 (by simpa using d8)
         have:=run_loadCells_list (P:=P) w' ⟨b,0,none⟩ (c.toList.take (xs.length*El.sz)) (λj v U=>by
          have e1:(⟨b,0,none⟩:Addr).add j=⟨b,j,none⟩:=by unfold Addr.add; split <;> simp_all
          have d1:w'.heap[b]? = some (.cells c e (0,0)):=by rw[d6]; exact e2 _ _ O
          rw[e1,N2 d1];rw[rF] at U;split at U
          . simpa using U
          . cases U)
         rwa [d4] at this
       . have⟨cs,Z,g4⟩:=h5 i x hx;refine⟨cs,Z,λj u U=>?_⟩;have d3:j<El.sz:=by rw[<-El.len Z]; exact(List.getElem?_eq_some_iff.1 U).1
         have d2:=(List.getElem?_eq_some_iff.1 hx).1;have a9:(i+1)*El.sz<=xs.length*El.sz:=wS _ d2;rw[WL,sS] at a9;rw[rF,if_pos (by omega)];simpa using g4 j u U
   have⟨a',a2,w',g1,g2⟩:=h.drop.appendNew (P:=P) (ty':=ty') hT a5 hi b1 hB hz d7 D a4 e4 d0 hfit e5;grind
theorem Ops.append {i:TypeInfo} {v:Value} {O:Array TypeId} {k:Nat} (B:Nat) (hA:Del m (OwnSl El e a cap xs) m') (hT:P.underlying sT=some (.slice e)) (a4:P.underlying T'=some (.slice e')) (hi:P.info? e=some i)
  (a2:i.size=El.sz) (hB:i.bytes=B) (hz:i.zero=some zc) (a6:zc.cells.size=El.sz) (a3:Nat.blt 0 B=true) (U:O = #[sT,T']) (hx:ev E x=some (.slice a k cap)) (hk:k=xs.length) (hy:ev E y=some v) (hS:Src P El I (Sym w0 M I0 I m) v ys)
  (J:(xs.length+ys.length)*B<=140737488355328) (hb:Nat.blt d n.sz=true) (hf:fresh E d=true)
  (k':∀ D h,Ops P ops l n ((d,.slice D (xs++ys).length h) :: E) (Sym w0 M I0 I (OwnSl El e D h (xs++ys) :: m')) Q) :
  Ops P ops (⟨some d,.call ⟨.builtin .append,#[x,y],O⟩,ty,pos,af,none⟩ :: l) n E (Sym w0 M I0 I m) Q:=
 Ops.valx (λv w'=>∃ D h,v=.slice D (xs++ys).length h∧Sym w0 M I0 I (OwnSl El e D h (xs++ys) :: m') w') rfl rfl
  (λc w V W=>by
   have⟨Z,_,h1,h2⟩:=hS;have⟨D,h,w',hr,a5,_⟩:=(W.del hA).append (P:=P) (ty':=ty) hT a4 hi a2 hB hz a6 Z h1 (h2 w W) J (λh0=>by subst h0; cases a3) hk;subst U;refine⟨_,w',?_,D,h,rfl,a5⟩;have e:(#[x,y].map c.eval) = #[.slice a k cap,v]:=by simp[V.eval hx,V.eval hy]
   simp only[execOp,resolve,e,Sem.run_bind,Sem.run_pure,Result.andThen_ok,invoke,builtin,hr]) hb hf
  (λv c w V ⟨D,h,Z,W⟩=>by subst Z; exact k' D h c w V W)
end
section
variable {w0:World} {M:Nat→Prop} {I0:IH}
variable {P:Program} {n:FrK} {E:DF} {Q:Exit→Act→World→Prop} {ops:Array Oper}
variable {listed:Array Bool} {l0 ex:List HA}
abbrev HX:=List (Nat×Nat×Value)
def L6:List Nat->Nat->Bool
 | [],_=>false
 | x :: l,y=>bif Nat.beq x y then true else L6 l y
theorem EO {l:List Nat} {y:Nat}:L6 l y=true↔y∈l:=by
 induction l with
 | nil=>simp[L6]
 | cons x l D=>
  simp only[L6,SK]
  cases h:Nat.beq x y with
  | true=>simp[AfY h]
  | false=>
   have:y≠x:=λe=>by rw[e,Nat.beq_refl] at h; cases h
   simp[D,this]
def yL:List Edge->List Nat
 | []=>[]
 | e :: l=>bif Region.binds .any e then e.on :: yL l else yL l
def EX (o:Oper):List Nat:=yL o.after.toList
theorem dF {l:List Edge} {j:Nat}:j∈yL l↔∃ e∈l,Region.binds .any e=true∧e.on=j:=by
  induction l with
  | nil=>simp[yL]
  | cons e l V=>
    simp only[yL]
    cases h:Region.binds .any e with
    | true =>
      simp only[cond_true, SK, V]; constructor
      . rintro(rfl | ⟨O,U,D,J⟩)
        . exact⟨e,.inl rfl,h,rfl⟩
        . exact⟨O,.inr U,D,J⟩
      . rintro⟨O,rfl | U,D,J⟩
        . exact .inl J.symm
        . exact .inr ⟨O,U,D,J⟩
    | false =>
      simp only[cond_false, SK, V]; constructor
      . rintro⟨O,U,D,J⟩; exact⟨O,.inr U,D,J⟩
      . rintro⟨O,rfl | U,D,J⟩
        . rw[h] at D; cases D
        . exact⟨O,U,D,J⟩
def JI:HX->List Nat->DF->DF
 | [],_,E=>E
 | p :: r,js,E=>bif L6 js p.1 then p.2 :: JI r js E else JI r js E
def Ao9:HX->DF->DF
 | [],E=>E
 | p :: r,E=>p.2 :: Ao9 r E
def I8:HX->Nat->Option (Nat×Value)
 | [],_=>none
 | p :: r,i=>bif Nat.beq p.1 i then some p.2 else I8 r i
def Fin (n:FrK) (S:World->Prop) (d:Nat) (v:Value):Exit->Act->World->Prop:=λe a w=>e=.normal∧a.defers=n.defs∧a.tmps[d]? = some v∧S w
abbrev Sh:=List HA->List HA
def ShOk (L:Sh):Prop:=∀ X ex,(L (X :: ex)).Perm (X :: L ex)
theorem Del.perm {l m:List HA} {A:HA} (h:Del l A m):l.Perm (A :: m):=by
 induction h with
 | z=>exact .refl _
 | s _ D=>exact(D.cons _).trans (.swap ..)
theorem Al3 {l O:List HA} {I:IH} (hp:l.Perm O):∀ {h:IH},O2 l I h->O2 O I h:=by
 induction hp with
 | nil=>exact λh=>h
 | cons x _ U=>exact λ⟨Z,W,a,b,c,d,e⟩=>⟨Z,W,a,b,c,d,U e⟩
 | swap x y l=>exact λV=>kB (.s .z) V
 | trans _ _ D J=>exact λh=>J (D h)
theorem Sym.perm {I:IH} {l D:List HA} {w:World} (hp:l.Perm D) (h:Sym w0 M I0 I l w):Sym w0 M I0 I D w:=by have⟨U,hi,J,k,W,hk,O,V⟩:=h;exact⟨U,hi,J,k,Al3 hp W,hk,O,V⟩
theorem ShOk.front {L:Sh} (h:ShOk L):∀ ex,(L ex).Perm (ex++L [])
 | []=>.refl _
 | X :: ex=>(h X ex).trans ((h.front ex).cons X)
theorem ShOk.app {L:Sh} (h:ShOk L) (D:List HA):ShOk λex=>L (D++ex):=λX ex=>by refine(h.front _).trans (.trans ?_ ((h.front (D++ex)).symm.cons X));simp only[nP,nV];exact Al1
structure AS where
 i:Nat
 d:Nat
 env:DF
 val:Nat→Value
 atom:Nat→HA
def AuK (P:Program) (ops:Array Oper) (n:FrK) (w0:World) (M:Nat->Prop) (I0:IH) (s:AS):Prop:=
 ∃ o,ops[s.i]? = some o∧o.dst=some s.d∧∀ (I:IH) (L:Sh),ShOk L->∀ ex,Ops P ops [o] n s.env (Sym w0 M I0 I (L ex)) λe a w=>e=.normal∧a.defers=n.defs∧∃ b,a.tmps[s.d]? = some (s.val b)∧Sym w0 M I0 I (L (s.atom b :: ex)) w
def O3:List AS->List Nat
 | []=>[]
 | s :: r=>s.i :: O3 r
def barD:List AS->HX->Sh->(HX->Sh->Prop)->Prop
 | [],dn,L,K=>K dn L
 | s :: r,dn,L,K=>∀ b,barD r ((s.i,s.d,s.val b) :: dn) (λex=>L (s.atom b :: ex)) K
def avals (bs:Nat->Nat):List AS->HX->HX
 | [],dn=>dn
 | s :: r,dn=>avals bs r ((s.i,s.d,s.val (bs s.i)) :: dn)
def atoms (bs:Nat->Nat):List AS->List HA
 | []=>[]
 | s :: r=>s.atom (bs s.i) :: atoms bs r
theorem barD.get (bs:Nat->Nat):∀ {as:List AS} {dn:HX} {L:Sh} {K:HX->Sh->Prop},barD as dn L K->K (avals bs as dn) (λex=>L (atoms bs as++ex))
 | [],_,_,_,h=>h
 | s :: r,_,_,_,h=>barD.get bs (as:=r) (h (bs s.i))
def Ad6 (as X:List Nat):List Oper->Nat->Bool
 | [],_=>true
 | o :: r,i=>(L6 X i || L6 as i || !(EX o).all (λp=>L6 X p || L6 as p) || as.all (L6 (EX o))) && Ad6 as X r (i+1)
def PendL (P:Program) (ops:Array Oper) (n:FrK) (E:DF) (dn:HX) (S:List HA->World->Prop):List Nat->Prop
 | []=>True
 | f :: fs=>(∃ o d v,ops[f]? = some o∧o.dst=some d∧fresh E d=true∧I8 dn f=some (d,v)∧∀ ex,Ops P ops [o] n (JI dn (EX o) E) (S ex) (Fin n (S ex) d v))∧PendL P ops n E dn S fs
def anc (ops:Array Oper):Nat->Nat->Nat->Bool
 | 0,_,_=>false
 | k+1,f,c=>match ops[c]? with
  | none=>false
  | some o=>L6 (EX o) f || (EX o).any (anc ops k f)
def AgB (ops:Array Oper) (c:Nat) (h pend:List Nat):Prop:=∀ f∈pend,f∈h∨∃ k,anc ops k f c=true
def kE (ops:Array Oper) (c f:Nat):Bool:=match ops[c]? with
 | none=>false
 | some o=>L6 (EX o) f
def AaP (X:List Nat):List Nat->Bool
 | []=>true
 | p :: ps=>L6 X p && AaP X ps
def dG (ops:List Oper) (X:List Nat) (c:Nat):Nat->Bool
 | i=>match ops with
  | []=>true
  | o :: r=>(L6 X i || Nat.beq i c || !AaP X (EX o)) && dG r X c (i+1)
def QZ (X:List Nat):Nat->Bool
 | 0=>true
 | k+1=>L6 X k && QZ X k
def fU (o:Oper) (c:Nat) (dn:HX) (a:Act) (h:HX):Prop:=
 match o.dst with
 | some d=>∃ v,a.tmps[d]? = some v∧h=(c,d,v) :: dn
 | none=>h=dn
def kF (X:List Nat):Nat->Bool
 | 0=>true
 | k+1=>L6 X k && kF X k
def WN:List Oper->Nat->Bool
 | [],_=>true
 | o :: r,i=>kF (EX o) i && WN r (i+1)
def rmE (d:Nat):DF->DF
 | []=>[]
 | p :: r=>bif Nat.beq p.1 d then rmE d r else p :: rmE d r
def XA (o:Oper) (E:DF):DF:=match o.dst with
 | none=>E
 | some d=>bif fresh E d then E else rmE d E
def DrawD (P:Program) (ops:Array Oper) (n:FrK) (Q:Exit->Act->World->Prop) (w0:World) (M:Nat->Prop) (I0:IH):DF->List (Option Nat)->HX->List Nat->List Nat->List AS->IH->Sh->Prop
 | E,[],dn,X,_,as,I,L=>as=[]∧∃ t,QZ X t=true∧(∀ x∈X,x<t)∧WN (ops.toList.drop t) t=true∧Ops P ops (ops.toList.drop t) n (Ao9 dn E) (Sym w0 M I0 I (L [])) Q
 | E,none :: cs,dn,X,pend,as,I,L=>Ad6 (O3 as) X ops.toList 0=true∧barD as dn L λD J=>DrawD P ops n Q w0 M I0 E cs D (O3 as++X) pend [] I J
 | E,some c :: cs,dn,X,pend,as,I,L=>∃ o,ops[c]? = some o ∧
  ((∃ d v,o.dst=some d∧fresh E d=true∧(∀ ex,Ops P ops [o] n (JI dn (EX o) E) (Sym w0 M I0 I (L ex)) (Fin n (Sym w0 M I0 I (L ex)) d v))∧DrawD P ops n Q w0 M I0 E cs ((c,d,v) :: dn) (c :: X) (c :: pend) as I L)
  ∨ (∃ d val atom,o.dst=some d∧fresh E d=true∧AaP X (EX o)=true∧AuK P ops n w0 M I0 ⟨c,d,JI dn (EX o) E,val,atom⟩∧DrawD P ops n Q w0 M I0 E cs dn X pend (⟨c,d,JI dn (EX o) E,val,atom⟩ :: as) I L)
  ∨ (dG ops.toList (O3 as++X) c 0=true∧(as=[]∨XA o E=E)∧∃ h,AgB ops c h pend∧∀ ex,Ops P ops [o] n (JI dn (EX o) E) (Sym w0 M I0 I (L ex)) λe a w=>e=.normal∧a.defers=n.defs ∧
   ∃ O J D,fU o c dn a D∧ShOk J∧Sym w0 M I0 O (J ex) w∧PendL P ops n (XA o E) D (λex=>Sym w0 M I0 O (J ex)) h∧DrawD P ops n Q w0 M I0 (XA o E) cs D (c :: X) h as O J))
def iA (n:FrK):List Oper->List Nat->Bool
 | [],_=>true
 | o :: r,ds=>match o.dst with
  | none=>iA n r ds
  | some d=>Nat.blt d n.sz && !L6 ds d && iA n r (d :: ds)
def iB:List Oper->Nat->Bool
 | [],_=>true
 | o :: r,i=>(EX o).all (Nat.blt · i) && iB r (i+1)
theorem Av6 {o:Oper} {a:Act} {w:World} (ha:a.defers=n.defs) {K':Act->World->Prop} {U:Exit->Act->World->Prop} (Z:∀ e a w,U e a w->e=.normal) (hK:∀ a w,K' a w->a.defers=n.defs)
  (h:o.wpIn (WM n) 0 P a w K' U):o.wpIn (WM n) 0 P a w (λW w'=>K' W w'∧∃ v,W=a.put o.dst v) Q:=by
 have hp:∀ c a w,¬U (.panic c) a w:=λc a w V=>by cases Z _ _ _ V
 have O:¬LetsOut U:=λ⟨a,w,V⟩=>by cases Z _ _ _ V
 unfold Oper.wpIn at *;refine⟨h.1,?_⟩
 replace h:=h.2
 generalize (o.semAt (WM n).round a.eval).run P w=r at *
 cases r with
 | ok x w'=>
  cases x <;> simp only[Oper.uponIn] at h ⊢
  case value v=>exact⟨h,v,rfl⟩
  case skip=>exact⟨h,_,rfl⟩
  case defer d=>exact absurd (hK _ _ h) (by rw[<-ha]; unfold Act.put; split <;> simp)
  case round=>refine⟨h.1,RoundIn.mono h.2 λe J D=>?_⟩; cases e with
   | returned v=>exact⟨D,v,rfl⟩
   | panicked c=>exact(hp _ _ _ D).elim
   | outgrown=>exact(O D).elim
  case enter f args=>
   refine⟨h.1,CallsIn.mono h.2 λe J D=>?_⟩
   cases e with
   | returned v=>exact⟨D,v,rfl⟩
   | panicked c=>exact(hp _ _ _ D).elim
   | outgrown=>exact(O D).elim
  case row=>exact⟨h.1,RowsIn.mono h.2 λv J D=>⟨D,v,rfl⟩⟩
 | halt x w'=>
  cases x <;> simp only[Oper.uponIn] at h ⊢;exact(hp _ _ _ h).elim
theorem sX {o:Oper} {i:Nat} {a:Act} {w:World} (Z:a.defers=n.defs) {J:Exit->Act->World->Prop} {K:Act->World->Prop} (hi:ops[i]? = some o) (W:∀ e a w,J e a w->e=.normal∧a.defers=n.defs)
   (h:wpListIn (WM n) 0 P ops J [o] a w) (U:∀ D w',J .normal D w'->(∃ v,D=a.put o.dst v)->K D w'):wpOpIn (WM n) 0 P ops Q i K a w:=by
 simp only[wpOpIn,hi];unfold wpListIn at h;split
 . rename_i O;rw[if_pos O] at h;refine Oper.wpIn_mono (λD w' V=>U D w' V.1 V.2) (Av6 Z (K':=λa w=>J .normal a w) (Q:=Q) (λe a w h=>(W e a w h).1) (λa w h=>(W _ _ _ h).2) ?_);exact h
 . rename_i O;rw[if_neg O] at h;exact⟨h.1,U _ _ h.2 ⟨undef,rfl⟩⟩
structure RI (P:Program) (ops:Array Oper) (n:FrK) (E:DF) (Q:Exit→Act→World→Prop) (w0:World) (M:Nat→Prop) (I0:IH) (listed:Array Bool) (a:Act) (w:World) (cs:List (Option Nat)) (dn:HX) (X pend:List Nat) (as:List AS) (I:IH) (L:Sh) (ad:List (AS×Nat)):Prop where
 draw:DrawD P ops n Q w0 M I0 E cs dn X pend as I L
 shape:ShOk L
 sat:Sym w0 M I0 I (L (ad.map fun p=>p.1.atom p.2)) w
 size:a.tmps.size=n.sz
 defers:a.defers=n.defs
 env:EnvOk E a
 lsize:listed.size=ops.size
 val:∀ i d v,(i,d,v)∈dn→listed.getD i false=true→a.tmps[d]? = some v
 have_:∀ i o d,ops[i]? = some o→o.dst=some d→i∈X→∃ v,(i,d,v)∈dn
 dnOk:∀ i d v,(i,d,v)∈dn→i∈X∧I8 dn i=some (d,v)∧∃ o,ops[i]? = some o∧o.dst=some d
 inX:∀ i,listed.getD i false=true→i∈O3 as++X
 outX:∀ i,i∈X→listed.getD i false=false→i∈pend
 pendL:PendL P ops n E dn (fun ex=>Sym w0 M I0 I (L ex)) pend
 down:∀ i o,listed.getD i false=true→ops[i]? = some o→∀ p∈EX o,listed.getD p false=true
 asX:∀ c∈O3 as,c ∉ X
 asNd:(O3 as).Nodup
 asSp:∀ s∈as,AuK P ops n w0 M I0 s∧∀ o,ops[s.i]? = some o→(∀ p∈EX o,p∈X)∧JI dn (EX o) E=s.env∧fresh E s.d=true
 adOk:∀ p∈ad,p.1∈as∧listed.getD p.1.i false=true∧a.tmps[p.1.d]? = some (p.1.val p.2)
 adAll:∀ s∈as,listed.getD s.i false=true→∃ b,(s,b)∈ad
 adNd:(ad.map fun p=>p.1.i).Nodup
theorem PendL.get {dn:HX} {S:List HA->World->Prop}:∀ {l:List Nat},PendL P ops n E dn S l->∀ f∈l,∃ o d v,ops[f]? = some o∧o.dst=some d∧fresh E d=true∧I8 dn f=some (d,v)∧∀ ex,Ops P ops [o] n (JI dn (EX o) E) (S ex) (Fin n (S ex) d v)
 | f :: fs,⟨h,h'⟩,g,D=>by
  cases D with
  | head=>exact h
  | tail _ D=>exact PendL.get h' g D
theorem AiT {a:Act} {js:List Nat} (J:EnvOk E a):∀ {dn:HX},(∀ i d v,(i,d,v)∈dn->i∈js->a.tmps[d]? = some v)->EnvOk (JI dn js E) a
 | [],_=>J
 | (i,d,v) :: dn,h=>by
  have ih:=AiT (js:=js) J (dn:=dn) (λi d v D=>h i d v (gV _ D));simp only[JI]
  cases D:L6 js i with
  | true=>exact⟨h i d v (by simp) (EO.1 D),ih⟩
  | false=>exact ih
theorem AiU {a:Act} (D:EnvOk E a):∀ {dn:HX},(∀ i d v,(i,d,v)∈dn->a.tmps[d]? = some v)->EnvOk (Ao9 dn E) a
 | [],_=>D
 | (i,d,v) :: dn,h=>⟨h i d v (by simp),AiU D λi d v J=>h i d v (gV _ J)⟩
theorem sY {l:List Nat} {y:Nat} (h:L6 l y=false):y ∉ l:=λD=>by rw[EO.2 D] at h; cases h
theorem YI {X:List Nat}:∀ {k i:Nat},QZ X k=true->i<k->i∈X
 | k+1,i,h,hi=>by
  simp only[QZ,aR] at h;by_cases e:i=k
  . subst e; exact EO.1 h.1
  . exact YI h.2 (by omega)
theorem AiV {X:List Nat}:∀ {D:List Nat},(∀ p∈D,p∈X)->AaP X D=true
 | [],_=>rfl
 | p :: D,h=>by simp only[AaP,aR]; exact⟨EO.2 (h p (by simp)),AiV λq J=>h q (gV _ J)⟩
theorem AaQ {X:List Nat} {c:Nat} {l:List Oper}:∀ (k:Nat),dG l X c k=true->∀ (i:Nat) (o:Oper),l[i]? = some o->k+i∈X∨k+i=c∨¬(∀ p∈EX o,p∈X):=by
 induction l with
 | nil=>intro k _ i o hi; simp at hi
 | cons o' l O=>
  intro k h i o hi;simp only[dG,aR,Al2] at h
  cases i with
  | zero=>
   simp at hi; subst hi;rcases h.1 with(D | D) | D
   . exact .inl (EO.1 D)
   . exact .inr (.inl (AfY D))
   . refine .inr (.inr λJ=>?_);rw[AiV J] at D; cases D
  | succ i=>
   have:=O (k+1) h.2 i o (by simpa using hi)
   rwa [show k+1+i=k+(i+1) by omega] at this
theorem AgC (O:∀ (i:Nat) (o:Oper),listed.getD i false=true->ops[i]? = some o->∀ p∈EX o,listed.getD p false=true) (k:Nat) :
  ∀ (f c:Nat) (o:Oper),ops[c]? = some o->(∀ p∈EX o,listed.getD p false=true)->anc ops k f c=true->listed.getD f false=true:=by
 induction k with
 | zero=>intro f c o _ _ h; simp[anc] at h
 | succ k U=>
  intro f c o J hp h;simp only[anc,J,Al2,AnK] at h;rcases h with h | ⟨p,D,h⟩
  . exact hp f (EO.1 h)
  . cases V:ops[p]? with
    | none=>cases k <;> simp[anc,V] at h
    | some o'=>exact U f p o' V (O p o' (hp p D) V) h
theorem Ad7 {f c:Nat} (h:kE ops c f=true):anc ops 1 f c=true:=by
 unfold kE at h;unfold anc
 cases D:ops[c]? with
 | none=>rw[D] at h; cases h
 | some o=>rw[D] at h; simp[h]
theorem AoA {f p c:Nat} (h:kE ops p f=true):∀ {k:Nat},anc ops k p c=true->∃ J,anc ops J f c=true:=by
 intro k
 induction k generalizing c with
 | zero=>intro D; simp[anc] at D
 | succ k U=>
  intro D;unfold anc at D
  cases V:ops[c]? with
  | none=>rw[V] at D; cases D
  | some o=>
   rw[V] at D;simp only[Al2,AnK] at D;rcases D with D | ⟨q,O,D⟩
   . refine⟨2,?_⟩;unfold anc;rw[V];simp only[Al2,AnK];exact .inr ⟨p,EO.1 D,Ad7 h⟩
   . have⟨J,hk⟩:=U D;refine⟨J+1,?_⟩;unfold anc;rw[V];simp only[Al2,AnK];exact .inr ⟨q,O,hk⟩
theorem Ad8 {l:List Oper}:∀ (U:List Nat),iA n l U=true->∀ (i:Nat) (o:Oper) (d:Nat),l[i]? = some o->o.dst=some d ->
  Nat.blt d n.sz=true∧d ∉ U∧∀ (j:Nat) (o':Oper),l[j]? = some o'->o'.dst=some d->j=i:=by
 induction l with
 | nil=>intro U _ i o d hi; simp at hi
 | cons o' l a2=>
  intro U h i o d hi V;simp only[iA] at h
  cases Z:o'.dst with
  | none=>
   rw[Z] at h
   cases i with
   | zero=>simp at hi; subst hi; rw[Z] at V; cases V
   | succ i=>
    have⟨h1,W,h4⟩:=a2 U h i o d (by simpa using hi) V;refine⟨h1,W,λj J O D=>?_⟩
    cases j with
    | zero=>simp at O; subst O; rw[Z] at D; cases D
    | succ j=>rw[h4 j J (by simpa using O) D]
  | some d'=>
   simp only[Z,aR,Bool.not_eq_true'] at h;have⟨⟨g1,g3⟩,g4⟩:=h
   cases i with
   | zero=>
    simp at hi; subst hi; rw[Z] at V; cases V;refine⟨g1,sY g3,λj J O D=>?_⟩
    cases j with
    | zero=>rfl
    | succ j=>
     have:=(a2 (d :: U) g4 j J d (by simpa using O) D).2.1;exact absurd (by simp) this
   | succ i=>
    have⟨h1,W,h4⟩:=a2 (d' :: U) g4 i o d (by simpa using hi) V;refine⟨h1,λhm=>W (gV _ hm),λj J O D=>?_⟩
    cases j with
    | zero=>simp at O; subst O; rw[Z] at D; cases D; exact absurd (by simp) W
    | succ j=>rw[h4 j J (by simpa using O) D]
theorem pU {l:List Oper}:∀ (k:Nat),iB l k=true->∀ (i:Nat) (o:Oper),l[i]? = some o->∀ p∈EX o,p<k+i:=by
 induction l with
 | nil=>intro k _ i o hi; simp at hi
 | cons o' l D=>
  intro k h i o hi p hp;simp only[iB,aR,List.all_eq_true] at h
  cases i with
  | zero=>simp at hi; subst hi; have:=h.1 p hp; simpa[Nat.blt_eq] using this
  | succ i=>have:=D (k+1) h.2 i o (by simpa using hi) p hp; omega
theorem Ad9 {ops:Array Oper} {i:Nat}:ops.toList[i]? = ops[i]?:=by simp
theorem HN {i j:Nat} (hi:i<listed.size):(listed.setIfInBounds i true).getD j false=true↔j=i∨listed.getD j false=true:=by
 simp only[jY,AnC];by_cases e:i=j
 . subst e; simp[hi]
 . simp[e,Ne.symm e]
theorem AgD {as X:List Nat} {l:List Oper}:∀ (k:Nat),Ad6 as X l k=true->∀ (i:Nat) (o:Oper),l[i]? = some o->k+i∈as++X∨¬(∀ p∈EX o,p∈as++X)∨∀ c∈as,c∈EX o:=by
 induction l with
 | nil=>intro k _ i o hi; simp at hi
 | cons o' l O=>
  intro k h i o hi;simp only[Ad6,aR,Al2] at h
  cases i with
  | zero=>
   simp at hi; subst hi;rcases h.1 with((D | D) | D) | D
   . exact .inl (List.mem_append.2 (.inr (EO.1 D)))
   . exact .inl (List.mem_append.2 (.inl (EO.1 D)))
   . refine .inr (.inl λV=>?_)
     have:(EX o').all (λp=>L6 X p || L6 as p)=true:=List.all_eq_true.2 λp hp=>by
      rcases List.mem_append.1 (V p hp) with J | J
      . simp[EO.2 J]
      . simp[EO.2 J]
     rw[this] at D; cases D
   . exact .inr (.inr λc U=>EO.1 (List.all_eq_true.1 D c U))
  | succ i=>
   have:=O (k+1) h.2 i o (by simpa using hi)
   rwa [show k+1+i=k+(i+1) by omega] at this
def T7:List (Option Nat)->List Nat
 | []=>[]
 | none :: r=>T7 r
 | some c :: r=>c :: T7 r
theorem VL {c:Nat}:∀ {as:List AS},c∈O3 as↔∃ s∈as,s.i=c
 | []=>by simp[O3]
 | s :: r=>by
  simp only[O3,SK,VL (as:=r)];constructor
  . rintro(rfl | ⟨D,J,h⟩)
    . exact⟨s,.inl rfl,rfl⟩
    . exact⟨D,.inr J,h⟩
  . rintro⟨D,rfl | J,h⟩
    . exact .inl h.symm
    . exact .inr ⟨D,J,h⟩
theorem QO {α β:Type} {f:α->β}:∀ {l:List α},(l.map f).Nodup->∀ {x y:α},x∈l->y∈l->f x=f y->x=y
 | a :: l,h,x,y,hx,hy,e=>by
  simp only[P9,sQ,hM,not_exists,not_and] at h;rcases List.mem_cons.1 hx with h1 | h1 <;> rcases List.mem_cons.1 hy with h2 | h2
  . rw[h1,h2]
  . rw[h1] at e; exact absurd e.symm (h.1 y h2)
  . rw[h2] at e; exact absurd e (h.1 x h1)
  . exact QO h.2 h1 h2 e
theorem YJ {α β:Type} {f:α->β}:∀ {l:List α},(l.map f).Nodup->l.Nodup
 | [],_=>.nil
 | a :: l,h=>by simp only[P9,sQ,hM,not_exists,not_and] at h;exact List.nodup_cons.2 ⟨λD=>h.1 a D rfl,YJ h.2⟩
theorem rQ:∀ {as:List AS},O3 as=as.map (·.i)
 | []=>rfl
 | s :: r=>by simp[O3,rQ (as:=r)]
theorem yM {bs:Nat->Nat}:∀ {as:List AS},atoms bs as=(as.map λs=>(s,bs s.i)).map λp=>p.1.atom p.2
 | []=>rfl
 | s :: r=>by simp[atoms,yM (as:=r)]
theorem oA {bs:Nat->Nat} {i d:Nat} {v:Value}:∀ {as:List AS} {dn:HX},(i,d,v)∈avals bs as dn->(i,d,v)∈dn∨∃ s∈as,i=s.i∧d=s.d∧v=s.val (bs s.i)
 | [],_,h=>.inl h
 | s :: r,dn,h=>by
  rcases oA (as:=r) h with D | ⟨s',D,h2⟩
  . rcases List.mem_cons.1 D with D | D
    . cases D; exact .inr ⟨s,by simp,rfl,rfl,rfl⟩
    . exact .inl D
  . exact .inr ⟨s',gV _ D,h2⟩
theorem iC {bs:Nat->Nat}:∀ {as:List AS} {dn:HX},(∀ p∈dn,p∈avals bs as dn)∧∀ s∈as,(s.i,s.d,s.val (bs s.i))∈avals bs as dn
 | [],_=>⟨λ_ h=>h,by simp⟩
 | s :: r,dn=>by
  have ih:=iC (bs:=bs) (as:=r) (dn:=(s.i,s.d,s.val (bs s.i)) :: dn);refine⟨λp hp=>ih.1 p (gV _ hp),λ_ D=>?_⟩;rcases List.mem_cons.1 D with rfl | D
  . exact ih.1 _ (by simp)
  . exact ih.2 _ D
theorem sZ {i c:Nat} (h:c≠i):Nat.beq c i=false:=by cases D:Nat.beq c i with | false=>rfl | true=>exact absurd (AfY D) h
theorem aU {bs:Nat->Nat} {i:Nat}:∀ {as:List AS} {dn:HX},i ∉ O3 as->I8 (avals bs as dn) i=I8 dn i
 | [],_,_=>rfl
 | s :: r,dn,h=>by simp only[O3,SK,not_or] at h;rw[avals,aU h.2];simp only[I8,sZ (Ne.symm h.1),cond_false]
theorem kG {bs:Nat->Nat}:∀ {as:List AS} {dn:HX},(O3 as).Nodup->∀ s∈as,I8 (avals bs as dn) s.i=some (s.d,s.val (bs s.i))
 | s :: r,dn,h,s',hs'=>by
  simp only[O3,sQ] at h;rcases List.mem_cons.1 hs' with rfl | hs'
  . rw[avals,aU h.1]; simp[I8]
  . exact kG h.2 s' hs'
theorem yN {l:HX} {c:Nat} {x:Nat×Value} (h:I8 l c=some x):(c,x)∈l:=by
 induction l with
 | nil=>simp[I8] at h
 | cons q l D=>
  simp only[I8] at h
  cases J:Nat.beq q.1 c with
  | true=>rw[J] at h; simp at h; have:=AfY J; subst h; subst this; simp
  | false=>rw[J] at h; exact gV _ (D h)
theorem tA {c d:Nat} {v:Value} {dn:HX} {js:List Nat} {a:Act} (h:EnvOk (JI ((c,d,v) :: dn) js E) a):EnvOk (JI dn js E) a:=by
 simp only[JI] at h
 cases D:L6 js c with
 | false=>rw[D] at h; exact h
 | true=>rw[D] at h; exact h.2
theorem PendL.push {c d:Nat} {v:Value} {dn:HX} {S:List HA->World->Prop} (J:∀ x,I8 dn c≠some x):∀ {l:List Nat},PendL P ops n E dn S l->PendL P ops n E ((c,d,v) :: dn) S l
 | [],_=>trivial
 | f :: fs,⟨⟨o',d',v',h1,h2,hfr,h3,h4⟩,h5⟩=>by
  refine⟨⟨o',d',v',h1,h2,hfr,?_,λex O w' h D=>h4 ex O w' ⟨h.size,h.defers,tA h.env⟩ D⟩,PendL.push J h5⟩;have hne:c≠f:=λe=>by subst e; exact J _ h3
  simp only[I8,sZ hne,cond_false]; exact h3
theorem PendL.app {dn:HX} {S:List HA->World->Prop} (g:List HA->List HA):∀ {l:List Nat},PendL P ops n E dn S l->PendL P ops n E dn (λex=>S (g ex)) l
 | [],_=>trivial
 | _ :: _,⟨⟨o',d',v',h1,h2,hfr,h3,h4⟩,h5⟩=>⟨⟨o',d',v',h1,h2,hfr,h3,λex=>h4 (g ex)⟩,PendL.app g h5⟩
theorem PendL.avals {bs:Nat->Nat} {S:List HA->World->Prop} {l:List Nat}:∀ {as:List AS} {dn:HX},(O3 as).Nodup->(∀ c∈O3 as,∀ x,I8 dn c≠some x)->PendL P ops n E dn S l->PendL P ops n E (avals bs as dn) S l
 | [],_,_,_,h=>h
 | s :: r,dn,hn,hd,h=>by
  simp only[O3,sQ] at hn;refine PendL.avals (as:=r) hn.2 (λc J x=>?_) (h.push (hd s.i (by simp[O3])));have D:s.i≠c:=λe=>by subst e; exact hn.1 J
  simp only[I8,sZ D,cond_false];exact hd c (by simp[O3,J]) x
theorem yO {X:List Nat}:∀ {D:List Nat},AaP X D=true->∀ p∈D,p∈X
 | q :: D,h,p,hp=>by
  simp only[AaP,aR] at h;rcases List.mem_cons.1 hp with rfl | hp
  . exact EO.1 h.1
  . exact yO h.2 p hp
theorem RI.norm {a:Act} {w:World}:∀ {cs:List (Option Nat)} {dn:HX} {X pend:List Nat} {as:List AS} {I:IH} {L:Sh} {ad:List (AS×Nat)},RI P ops n E Q w0 M I0 listed a w cs dn X pend as I L ad ->
  (∀ c∈T7 cs,c ∉ O3 as++X)->(T7 cs).Nodup->∃ W dn' X' V Z L' ad',RI P ops n E Q w0 M I0 listed a w W dn' X' V Z I L' ad'∧(∀ c∈T7 W,c ∉ O3 Z++X')∧(T7 W).Nodup∧(∀ c∈T7 W,c∈T7 cs)∧(∀ c∈O3 Z++X',c∈O3 as++X∨c∈T7 cs)∧(∀ i,(i∈O3 as++X∨i∈T7 cs)->(i∈O3 Z++X'∨i∈T7 W)) ∧
    (W=[]∨(∃ r,W=none :: r∧∃ c∈O3 Z,listed.getD c false=false)∨∃ c r o,W=some c :: r∧ops[c]? = some o∧dG ops.toList (O3 Z++X') c 0=true∧(Z=[]∨XA o E=E)∧∃ p',AgB ops c p' V∧∀ ex,Ops P ops [o] n (JI dn' (EX o) E) (Sym w0 M I0 I (L' ex)) λe a w=>e=.normal∧a.defers=n.defs ∧
        ∃ I2 L2 dn2,fU o c dn' a dn2∧ShOk L2∧Sym w0 M I0 I2 (L2 ex) w∧PendL P ops n (XA o E) dn2 (λex=>Sym w0 M I0 I2 (L2 ex)) p'∧DrawD P ops n Q w0 M I0 (XA o E) r dn2 (c :: X') p' Z I2 L2):=by
 intro cs
 induction cs with
 | nil=>exact λh _ _=>⟨_,_,_,_,_,_,_,h,by simp[T7],by simp[T7],by simp[T7],λc hc=>.inl hc,λ_ h=>h,.inl rfl⟩
 | cons c? cs ih=>
  intro dn X pend as I L ad h hX hN
  cases c? with
  | none=>
    by_cases hall:∀ c∈O3 as,listed.getD c false=true
    . -- the barrier falls
      have hd:=h.draw;simp only[DrawD] at hd
      have hex:∀ i,∃ b,∀ s∈as,s.i=i->(s,b)∈ad:=λi=>by
        by_cases hi:∃ s∈as,s.i=i
        . obtain⟨s,U,rfl⟩:=hi;have⟨b,hb⟩:=h.adAll s U (hall _ (VL.2 ⟨s,U,rfl⟩));refine⟨b,λs' hs' e=>?_⟩;have hnd:=h.asNd;rw[rQ] at hnd;rw[QO hnd hs' U e]; exact hb
        . exact⟨0,λs U e=>absurd ⟨s,U,e⟩ hi⟩
      obtain⟨bs,hbs⟩:∃ bs:Nat->Nat,∀ s∈as,(s,bs s.i)∈ad:=⟨λi=>Classical.choose (hex i),λs U=>Classical.choose_spec (hex s.i) s U rfl⟩
      have hperm:(ad.map λp=>p.1.atom p.2).Perm (atoms bs as):=by
        rw[yM];refine List.Perm.map _ ?_
        have hnd2:(as.map λs=>(s,bs s.i)).Nodup:=by have hnd:=h.asNd;rw[rQ] at hnd;refine YJ (f:=λp=>p.1.i) ?_;simpa[Function.comp_def] using hnd
        refine(AcX (YJ h.adNd) hnd2).2 λp=>⟨λhp=>?_,λhp=>?_⟩
        . have O:=(h.adOk p hp).1;have:=QO h.adNd hp (hbs p.1 O) rfl;exact List.mem_map.2 ⟨p.1,O,this.symm⟩
        . obtain⟨s,U,rfl⟩:=List.mem_map.1 hp;exact hbs s U
      have hdl:∀ c∈O3 as,∀ x,I8 dn c≠some x:=λc hc x e=>h.asX c hc (h.dnOk c x.1 x.2 (yN e)).1
      have H:RI P ops n E Q w0 M I0 listed a w cs (Fw.avals bs as dn) (O3 as++X) pend [] I (λex=>L (Fw.atoms bs as++ex)) []:=by
        refine⟨hd.2.get bs,h.shape.app _,?_,h.size,h.defers,h.env,h.lsize,?_,?_,?_,h.inX,?_,?_,h.down,by simp[O3],by simp[O3],by simp,by simp,by simp,by simp⟩
        . refine h.sat.perm (((h.shape.front _).trans ?_).trans (h.shape.front _).symm);simp only[AiP,kA];exact hperm.append_right _
        . intro i d v D hl;rcases oA D with D | ⟨s,U,rfl,rfl,rfl⟩
          . exact h.val i d v D hl
          . exact(h.adOk _ (hbs s U)).2.2
        . intro i o d hi hd D;rcases List.mem_append.1 D with D | D
          . obtain⟨s,U,rfl⟩:=VL.1 D;have⟨o',ho',hd',_⟩:=(h.asSp s U).1;rw[hi] at ho'; cases ho'; rw[hd] at hd'; cases hd';exact⟨_,iC.2 s U⟩
          . have⟨v,hv⟩:=h.have_ i o d hi hd D;exact⟨v,iC.1 _ hv⟩
        . intro i d v D;rcases oA D with D | ⟨s,U,rfl,rfl,rfl⟩
          . have⟨g1,g2,g3⟩:=h.dnOk i d v D;exact⟨List.mem_append.2 (.inr g1),(aU (λhc=>h.asX i hc g1)).trans g2,g3⟩
          . have⟨o',ho',hd',_⟩:=(h.asSp s U).1;exact⟨List.mem_append.2 (.inl (VL.2 ⟨s,U,rfl⟩)),kG h.asNd s U,o',ho',hd'⟩
        . intro i hi hl;rcases List.mem_append.1 hi with hi | hi
          . rw[hall i hi] at hl; cases hl
          . exact h.outX i hi hl
        . exact(h.pendL.app (λex=>Fw.atoms bs as++ex)).avals h.asNd hdl
      have g:=ih H (by simpa[O3,T7] using hX) hN;simp only[O3,AiK] at g;exact g
    . refine⟨none :: cs,dn,X,pend,as,L,ad,h,hX,hN,λc hc=>hc,λc hc=>.inl hc,λ_ h=>h,.inr (.inl ⟨cs,rfl,?_⟩)⟩;refine AfV λhne=>hall λc hc=>?_
      cases hl:listed.getD c false with
      | true=>rfl
      | false=>exact absurd ⟨c,hc,hl⟩ hne
  | some c=>
  have hd:=h.draw;simp only[DrawD] at hd;simp only[T7,sQ] at hN;have hcX:c ∉ O3 as++X:=hX c (by simp[T7]);have hnl:listed.getD c false=false:=by cases hl:listed.getD c false with | false=>rfl | true=>exact absurd (h.inX c hl) hcX
  obtain⟨o,ho,hd | hd | hd⟩:=hd
  . have⟨d,v,hod,hfr,hops,hdr⟩:=hd;have hcX':c ∉ X:=λD=>hcX (List.mem_append.2 (.inr D));have hcdn:∀ d v,(c,d,v) ∉ dn:=λd v D=>hcX' (h.dnOk c d v D).1
    have hdl:∀ i d' v',(i,d',v')∈dn->I8 ((c,d,v) :: dn) i=some (d',v'):=λi d' v' D=>by
      have hne:c≠i:=λe=>by subst e; exact hcdn _ _ D
      simp only[I8,sZ hne,cond_false]; exact(h.dnOk i d' v' D).2.1
    suffices H:RI P ops n E Q w0 M I0 listed a w cs ((c,d,v) :: dn) (c :: X) (c :: pend) as I L ad∧(∀ c'∈T7 cs,c' ∉ O3 as++c :: X) by
      have⟨W,dn',X',V,Z,L',ad',g1,g2,g3,g4,g5,g7,g6⟩:=ih H.1 H.2 hN.2;refine⟨W,dn',X',V,Z,L',ad',g1,g2,g3,λc' J=>gV _ (g4 c' J),λc' J=>?_,λi hi=>g7 i ?_,g6⟩
      . rcases g5 c' J with O | O
        . simp only[rG,SK,T7] at O ⊢;rcases O with O | rfl | O
          . exact .inl (.inl O)
          . exact .inr (.inl rfl)
          . exact .inl (.inr O)
        . exact .inr (gV _ O)
      . simp only[rG,SK,T7] at hi ⊢;rcases hi with(O | O) | O | O
        . exact .inl (.inl O)
        . exact .inl (.inr (.inr O))
        . exact .inl (.inr (.inl O))
        . exact .inr O
    refine⟨⟨hdr,h.shape,h.sat,h.size,h.defers,h.env,h.lsize,?_,?_,?_,λi hi=>?_,?_,?_,h.down,?_,h.asNd,?_,h.adOk,h.adAll,h.adNd⟩,λc' J=>?_⟩
    . intro i d' v' D hl
      cases D with
      | head=>rw[hnl] at hl; cases hl
      | tail _ D=>exact h.val i d' v' D hl
    . intro i o' d' hi hd' D;rcases List.mem_cons.1 D with rfl | D
      . rw[ho] at hi; cases hi; rw[hod] at hd'; cases hd'; exact⟨v,by simp⟩
      . have⟨v',hv'⟩:=h.have_ i o' d' hi hd' D; exact⟨v',gV _ hv'⟩
    . intro i d' v' D
      cases D with
      | head=>exact⟨by simp,by simp[I8],o,ho,hod⟩
      | tail _ D=>exact⟨gV _ (h.dnOk i d' v' D).1,hdl i d' v' D,(h.dnOk i d' v' D).2.2⟩
    . have:=h.inX i hi;simp only[rG,SK] at this ⊢;exact this.imp id .inr
    . intro i hi hl;rcases List.mem_cons.1 hi with rfl | hi
      . simp
      . exact gV _ (h.outX i hi hl)
    . refine⟨⟨o,d,v,ho,hod,hfr,by simp[I8],λex a' w' hok hs'=>hops ex a' w' ⟨hok.size,hok.defers,tA hok.env⟩ hs'⟩,h.pendL.push λx hx=>hcdn _ _ (yN hx)⟩
    . intro c' J D;rcases List.mem_cons.1 D with rfl | D
      . exact hcX (List.mem_append.2 (.inl J))
      . exact h.asX c' J D
    . intro s U;have⟨g1,g2⟩:=h.asSp s U;refine⟨g1,λo' ho'=>⟨λp hp=>gV _ ((g2 o' ho').1 p hp),?_⟩⟩;have hnm:L6 (EX o') c=false:=by cases D:L6 (EX o') c with | false=>rfl | true=>exact absurd ((g2 o' ho').1 c (EO.1 D)) hcX'
      simp only[JI,hnm,cond_false];exact(g2 o' ho').2
    . intro D;simp only[rG,SK] at D;rcases D with D | rfl | D
      . exact hX c' (by simp[T7,J]) (List.mem_append.2 (.inl D))
      . exact hN.1 J
      . exact hX c' (by simp[T7,J]) (List.mem_append.2 (.inr D))
  . have⟨d,val,atom,hod,hfr,hin,hsp,hdr⟩:=hd
    suffices H:RI P ops n E Q w0 M I0 listed a w cs dn X pend (⟨c,d,JI dn (EX o) E,val,atom⟩ :: as) I L ad∧(∀ c'∈T7 cs,c' ∉ O3 (⟨c,d,JI dn (EX o) E,val,atom⟩ :: as)++X) by
      have⟨W,dn',X',V,Z,L',ad',g1,g2,g3,g4,g5,g7,g6⟩:=ih H.1 H.2 hN.2;refine⟨W,dn',X',V,Z,L',ad',g1,g2,g3,λc' J=>gV _ (g4 c' J),λc' J=>?_,λi hi=>g7 i ?_,g6⟩
      . rcases g5 c' J with O | O
        . simp only[O3,nV,SK,T7] at O ⊢;rcases O with rfl | O
          . exact .inr (.inl rfl)
          . exact .inl O
        . exact .inr (gV _ O)
      . simp only[O3,nV,SK,T7] at hi ⊢;rcases hi with O | O | O
        . exact .inl (.inr O)
        . exact .inl (.inl O)
        . exact .inr O
    refine⟨⟨hdr,h.shape,h.sat,h.size,h.defers,h.env,h.lsize,h.val,h.have_,h.dnOk,λi hi=>gV _ (h.inX i hi),h.outX,h.pendL,h.down,?_,?_,?_,?_,?_,h.adNd⟩,λc' J=>?_⟩
    . intro c' J;rcases List.mem_cons.1 J with rfl | J
      . exact λD=>hcX (List.mem_append.2 (.inr D))
      . exact h.asX c' J
    . exact List.nodup_cons.2 ⟨λD=>hcX (List.mem_append.2 (.inl D)),h.asNd⟩
    . intro s U;rcases List.mem_cons.1 U with rfl | U
      . exact⟨hsp,λo' ho'=>by rw[ho] at ho'; cases ho'; exact⟨yO hin,rfl,hfr⟩⟩
      . exact h.asSp s U
    . intro p hp;exact⟨gV _ (h.adOk p hp).1,(h.adOk p hp).2⟩
    . intro s U hl;rcases List.mem_cons.1 U with rfl | U
      . rw[hnl] at hl; cases hl
      . exact h.adAll s U hl
    . simp only[O3,nV,SK,not_or];exact⟨λe=>hN.1 (e▸J),hX c' (by simp[T7,J])⟩
  . exact⟨some c :: cs,dn,X,pend,as,L,ad,h,hX,List.nodup_cons.2 hN,λc hc=>hc,λc hc=>.inl hc,λ_ h=>h,.inr (.inr ⟨c,cs,o,rfl,ho,hd.1,hd.2.1,hd.2.2⟩)⟩
theorem kH {X:List Nat}:∀ {k i:Nat},kF X k=true->i<k->i∈X
 | k+1,i,h,hi=>by
  simp only[kF,aR] at h;by_cases e:i=k
  . subst e; exact EO.1 h.1
  . exact kH h.2 (by omega)
theorem pW {l:List Oper}:∀ (k:Nat),WN l k=true->∀ (i:Nat) (o:Oper),l[i]? = some o->∀ j,j<k+i->j∈EX o:=by
 induction l with
 | nil=>intro k _ i o hi; simp at hi
 | cons o' l D=>
  intro k h i o hi j J;simp only[WN,aR] at h
  cases i with
  | zero=>simp at hi; subst hi; exact kH h.1 (by simpa using J)
  | succ i=>exact D (k+1) h.2 i o (by simpa using hi) j (by omega)
theorem Al4 {i:Nat} (hi:i∈Region.ready .any ops listed):i<ops.size∧listed.getD i true=false∧∃ o,ops[i]? = some o∧∀ p∈EX o,listed.getD p false=true:=by rw[mem_ready] at hi;have⟨U,o,D,hp⟩:=hi;refine⟨(Array.getElem?_eq_some_iff.1 D).1,U,o,D,λp h=>?_⟩;obtain⟨e,J,O,rfl⟩:=dF.1 h;exact hp e (by simpa using J) O
theorem AoB {t:Nat} (ht:WN (ops.toList.drop t) t=true) (a2:iB ops.toList 0=true):∀ (D k:Nat) {listed:Array Bool} {a:Act} {w:World},t<=k->k<=ops.size->listed.size=ops.size->(∀ i,listed.getD i false=true↔i<k)->ops.size<=D+k ->
  wpListIn (WM n) 0 P ops Q (ops.toList.drop k) a w->wpAnyIn (WM n) 0 P .any ops Q D listed a w:=by
 have only:∀ {k:Nat} {listed:Array Bool} {i:Nat},t<=k->listed.size=ops.size->(∀ i,listed.getD i false=true↔i<k)->i∈Region.ready .any ops listed->i=k∧i<ops.size:=by
  intro k listed i U O V hi;have⟨h1,W,o,ho,hp⟩:=Al4 hi;refine⟨?_,h1⟩
  have a7:¬i<k:=λh=>by
    have:=(V i).2 h;have J:i<listed.size:=by omega
    simp only[jY,AfW J,wT] at this W;rw[this] at W; cases W
  rcases aG k i with h3 | h3
  . have Z:k∈EX o:=pW t ht (i - t) o (by rw[AkZ,show t+(i - t)=i by omega,Ad9]; exact ho) k (by omega);have:=(V k).1 (hp k Z); omega
  . omega
 intro D
 induction D with
 | zero=>
  intro k listed a w U hk O V hf h;have e:k=ops.size:=by omega
  refine⟨?_,?_⟩
  . cases hr:Region.ready .any ops listed with
    | nil=>rfl
    | cons i r=>have:=only U O V (i:=i) (by rw[hr]; simp); omega
  . rw[e,List.drop_of_length_le (by simp)] at h; exact h
 | succ D ih=>
  intro k listed a w U hk O V hf h;refine⟨λhr=>?_,λi hi=>?_⟩
  . have e:k=ops.size:=by
      rcases aG k ops.size with J | a6
      . exfalso
        have:k∈Region.ready .any ops listed:=by
         rw[mem_ready];have a5:k<listed.size:=by omega
         refine⟨?_,ops[k],by simp[J],λe he hb=>?_⟩
         . cases hv:listed.getD k true with
           | false=>rfl
           | true=>
            have:listed.getD k false=true:=by simp only[jY,AfW a5,wT] at hv ⊢; exact hv
            have:=(V k).1 this; omega
         . have Z:e.on∈EX ops[k]:=dF.2 ⟨e,by simpa using he,hb,rfl⟩;have:=pU 0 a2 k ops[k] (by rw[Ad9]; simp[J]) e.on Z;exact(V e.on).2 (by omega)
        rw[hr] at this; cases this
      . omega
    rw[e,List.drop_of_length_le (by simp)] at h; exact h
  . obtain⟨rfl,J⟩:=only U O V hi
    have hd:ops.toList.drop i=ops[i] :: ops.toList.drop (i+1):=by rw[ArX (by simpa using J)]; simp
    rw[hd] at h;have a4:ops[i]? = some ops[i]:=by simp[J]
    have a3:∀ j,(listed.setIfInBounds i true).getD j false=true↔j<i+1:=λj=>by rw[HN (by omega),V j]; omega
    have step:∀ a w,wpListIn (WM n) 0 P ops Q (ops.toList.drop (i+1)) a w->wpAnyIn (WM n) 0 P .any ops Q D (listed.setIfInBounds i true) a w:=λa w h'=>
      ih (i+1) (by omega) (by omega) (by simpa using O) a3 (by omega) h'
    simp only[wpOpIn,a4];unfold wpListIn at h;split
    . rename_i hw;rw[if_pos hw] at h;exact Oper.wpIn_mono step h
    . rename_i hw;rw[if_neg hw] at h;exact⟨h.1,step _ _ h.2⟩
theorem dH (d:Nat):∀ E:DF,fresh (rmE d E) d=true
 | []=>rfl
 | p :: r=>by
  simp only[rmE]
  cases h:Nat.beq p.1 d with
  | true=>simpa using dH d r
  | false=>simp[fresh,h,dH d r]
theorem AaR {a:Act} (d:Nat):∀ {E:DF},EnvOk E a->EnvOk (rmE d E) a
 | [],_=>trivial
 | p :: r,h=>by
  simp only[rmE]
  cases D:Nat.beq p.1 d with
  | true=>simpa using AaR d h.2
  | false=>exact⟨h.1,AaR d h.2⟩
theorem AdA {o:Oper} {d:Nat} (D:o.dst=some d):fresh (XA o E) d=true:=by
 simp only[XA,D]
 cases h:fresh E d with
 | true=>exact h
 | false=>exact dH d E
theorem AoC {o:Oper} {a:Act} (h:EnvOk E a):EnvOk (XA o E) a:=by
 simp only[XA];split
 . exact h
 . rename_i d _
   cases D:fresh E d with
   | true=>exact h
   | false=>exact AaR d h
theorem Al5 {t:Nat} (l1:iA n (ops.toList.take t) []=true) (i6:iB ops.toList 0=true) (i7:WN (ops.toList.drop t) t=true) (ht:t<=ops.size):∀ (a7:Nat) {E:DF} {listed:Array Bool} {a:Act} {w:World} {cs:List (Option Nat)} {dn:HX} {X pend:List Nat} {as:List AS} {I:IH} {L:Sh} {ad:List (AS×Nat)},
  RI P ops n E Q w0 M I0 listed a w cs dn X pend as I L ad->(∀ c∈T7 cs,c ∉ O3 as++X)->(T7 cs).Nodup->(∀ c∈T7 cs,c<t)->(∀ c∈O3 as++X,c<t)->(∀ i,i<t->i∈O3 as++X∨i∈T7 cs)->ops.size<=a7+(listed.toList.filter id).length->wpAnyIn (WM n) 0 P .any ops Q a7 listed a w:=by
 -- all of the first t have k8: the tail
 have h6:∀ {a7:Nat} {E:DF} {listed:Array Bool} {a:Act} {w:World} {cs:List (Option Nat)} {dn:HX} {X pend:List Nat} {as:List AS} {I:IH} {L:Sh} {ad:List (AS×Nat)},RI P ops n E Q w0 M I0 listed a w cs dn X pend as I L ad->(∀ c∈T7 cs,c ∉ O3 as++X)->(T7 cs).Nodup->(∀ c∈T7 cs,c<t)->(∀ c∈O3 as++X,c<t) ->
    (∀ i,i<t->listed.getD i false=true)->ops.size<=a7+t->wpAnyIn (WM n) 0 P .any ops Q a7 listed a w:=by
  intro a7 E listed a w cs dn X pend as I L ad a2 hX hN b1 a9 a4 hf;have⟨f4,a8,X',l9,d1,L',d0,D,d8,d7,e2,f5,_,f6⟩:=a2.norm hX hN;have a6:∀ c∈O3 d1++X',c<t:=λc Z=>(f5 c Z).elim (a9 c) (b1 c);rcases f6 with rfl | ⟨r,rfl,c,Z,W⟩ | ⟨c,r,o,rfl,ho,_⟩
  . have hd:=D.draw;simp only[DrawD] at hd;obtain⟨rfl,t',e3,l4,_,g8⟩:=hd
    have j2:d0=[]:=by
      cases d0 with
      | nil=>rfl
      | cons p r=>have:=(D.adOk p (by simp)).1; cases this
    subst j2;simp only[O3,AiK] at a6;have i3:∀ i,listed.getD i false=true->i∈X':=λi hi=>by simpa[O3] using D.inX i hi
    have e:t'=t:=by
      rcases Nat.lt_trichotomy t' t with J | J | J
      . have:=l4 t' (i3 t' (a4 t' J)); omega
      . exact J
      . have:=a6 t (YI e3 J); omega
    subst e;refine AoB i7 i6 a7 t' (YG _) ht D.lsize (λi=>⟨λhi=>a6 i (i3 i hi),a4 i⟩) hf (g8 a w ⟨D.size,D.defers,AiU D.env λi d v O=>?_⟩ D.sat);exact D.val i d v O (a4 i (a6 i (D.dnOk i d v O).1))
  . rw[a4 c (a6 c (List.mem_append.2 (.inl Z)))] at W; cases W
  . have:=a4 c (b1 c (e2 c (by simp[T7])));exact absurd (D.inX c this) (d8 c (by simp[T7]))
 -- something is always left to do, where one of the first t has not k8
 have m0:∀ {listed:Array Bool},listed.size=ops.size->Region.ready .any ops listed=[]->∀ i,i<ops.size->listed.getD i false=true:=by
  intro listed i0 hr i
  induction i using Nat.strongRecOn with
  | _ i ih=>
    intro hi
    cases W:listed.getD i false with
    | true=>rfl
    | false=>
      exfalso;obtain⟨o,ho⟩:∃ o,ops[i]? = some o:=⟨ops[i],by simp[hi]⟩
      have:i∈Region.ready .any ops listed:=by
        rw[mem_ready];refine⟨?_,o,ho,λe he V=>?_⟩
        . have d9:i<listed.size:=by rw[i0]; exact hi
          simp only[jY,AfW d9,wT] at W ⊢; exact W
        . have O:e.on∈EX o:=dF.2 ⟨e,by simpa using he,V,rfl⟩;have:=pU 0 i6 i o (by rw[Ad9]; exact ho) e.on O;exact ih e.on (by omega) (by omega)
      rw[hr] at this; cases this
 have i9:∀ {listed:Array Bool},(∀ i,listed.getD i false=true↔i<t)->listed.size=ops.size->(listed.toList.filter id).length=t:=by
  intro listed W i0;have m1:=ht
  have e:listed.toList=List.replicate t true++List.replicate (ops.size - t) false:=by
    apply AnI;intro i;by_cases hi:i<ops.size
    . have d9:i<listed.size:=by omega
      have hv:=W i;simp only[jY,AfW d9,wT] at hv;rw[show listed.toList[i]? = some listed[i] by simp[d9]];by_cases J:i<t
      . rw[rD (by simpa using J)]; simp[J,hv.2 J]
      . rw[AaG (by simpa using Nat.le_of_not_lt J)];have:listed[i]=false:=by cases V:listed[i] with | false=>rfl | true=>exact absurd (hv.1 V) J
        rw[this,AnQ,List.getElem?_replicate,if_pos (by omega)]
    . rw[As1 (by simp; omega),As1 (by simp; omega)]
  rw[e]; simp
 intro a7
 induction a7 with
 | zero=>
  intro E listed a w cs dn X pend as I L ad a2 hX hN b1 a9 i2 hf
  have a4:∀ i,i<ops.size->listed.getD i false=true:=by
    intro i hi
    have l3:(listed.toList.filter id).length=listed.toList.length:=by have J:=rE id listed.toList;have h2:=a2.lsize;simp only[Ag0] at J ⊢;omega
    have:=List.length_filter_eq_length_iff.1 l3;have d9:i<listed.size:=by rw[a2.lsize]; exact hi
    have hx:=this listed[i] (by simp);simpa[jY,AfW d9] using hx
  have e:t=ops.size:=by
    rcases aG t ops.size with J | J
    . have:=a9 t (a2.inX t (a4 t J)); omega
    . omega
  exact h6 a2 hX hN b1 a9 (λi hi=>a4 i (by omega)) (by omega)
 | succ a7 ih=>
  intro E listed a w cs dn X pend as I L ad a2 hX hN b1 a9 i2 hf;by_cases a4:∀ i,i<t->listed.getD i false=true
  . have l2:∀ i,listed.getD i false=true↔i<t:=λi=>⟨λhi=>a9 i (a2.inX i hi),a4 i⟩;have:=i9 l2 a2.lsize;exact h6 a2 hX hN b1 a9 a4 (by omega)
  refine⟨λhr=>absurd (λi hi=>m0 a2.lsize hr i (by omega)) a4,λi hi=>?_⟩;rw[mem_ready] at hi;have⟨h7,o,ho,l5⟩:=hi;have hi:=(Array.getElem?_eq_some_iff.1 ho).1;have a3:i<listed.size:=by rw[a2.lsize]; exact hi
  have f2:listed.getD i false=false:=by simp only[jY,AfW a3,wT] at h7 ⊢; exact h7
  have d6:∀ p∈EX o,listed.getD p false=true:=λp hp=>by obtain⟨e,he,V,rfl⟩:=dF.1 hp;exact l5 e (by simpa using he) V
  have f9:i<t:=by
    rcases aG i t with J | J
    . exact J
    . exact absurd (λj h=>d6 j (pW t i7 (i - t) o (by rw[AkZ,show t+(i - t)=i by omega,Ad9]; exact ho) j (by omega))) a4
  have h5:ops.size<=a7+((listed.setIfInBounds i true).toList.filter id).length:=by
    have:((listed.setIfInBounds i true).toList.filter id).length=(listed.toList.filter id).length+1:=by
      rw[Array.toList_setIfInBounds]
      have V:listed.toList[i]? = some false:=by simp only[jY,AfW a3,wT] at f2;simp[a3,f2]
      have key:∀ (l:List Bool) (i:Nat),l[i]? = some false->((l.set i true).filter id).length=(l.filter id).length+1:=by
        intro l
        induction l with
        | nil=>intro i a2; simp at a2
        | cons b l k7=>
          intro i a2
          cases i with
          | zero=>simp at a2; subst a2; simp
          | succ i=>
            have:=k7 i (by simpa using a2);simp only[AnU,AnL];split <;> simp[this]
      exact key _ i V
    omega
  have⟨f4,a8,X',l9,d1,L',d0,D,d8,d7,e2,f5,l6,f6⟩:=a2.norm hX hN;have a6:∀ c∈O3 d1++X',c<t:=λc Z=>(f5 c Z).elim (a9 c) (b1 c);have g7:∀ c∈T7 f4,c<t:=λc Z=>b1 c (e2 c Z);have e7:∀ i,i<t->i∈O3 d1++X'∨i∈T7 f4:=λi hi=>l6 i (i2 i hi);clear a2 hX hN
  have j6:∀ d,o.dst=some d->Nat.blt d n.sz=true∧∀ j o',j<t->ops[j]? = some o'->o'.dst=some d->j=i:=λd hd=>by have⟨g1,_,g4⟩:=Ad8 [] l1 i o d (by rw[rF,if_pos f9,Ad9]; exact ho) hd;exact⟨g1,λj o' g5 h=>g4 j o' (by rw[rF,if_pos g5,Ad9]; exact h)⟩
  have i8:∀ {a':Act} {v:Value} {j d':Nat} {v':Value} {o':Oper},a'=a.put o.dst v->j<t->j≠i->ops[j]? = some o'->o'.dst=some d'->a.tmps[d']? = some v'->a'.tmps[d']? = some v':=by
    intro a' v j d' v' o' b0 g5 c0 a5 e4 hv;subst b0
    cases hd:o.dst with
    | none=>exact hv
    | some d=>
      have j5:¬d=d':=λe=>by subst e; exact c0 ((j6 d hd).2 j o' g5 a5 e4)
      simp only[Act.put,AnC,if_neg j5];exact hv
  have f3:∀ {a':Act} {v:Value},a'=a.put o.dst v->a'.tmps.size=n.sz∧(∀ E2:DF,(∀ d,o.dst=some d->fresh E2 d=true)->EnvOk E2 a->EnvOk E2 a')∧(∀ j d' v',(j,d',v')∈a8->j≠i->listed.getD j false=true->a'.tmps[d']? = some v') ∧
      (∀ p∈d0,p.1.i≠i->a'.tmps[p.1.d]? = some (p.1.val p.2)):=by
    intro a' v b0;refine⟨?_,λE2 e5 hE=>?_,λj d' v' O c0 W=>?_,λp hp c0=>?_⟩
    . subst b0; cases hd:o.dst <;> simp[Act.put,D.size]
    . subst b0
      cases hd:o.dst with
      | none=>exact hE
      | some d=>exact hE.put (e5 d hd) v
    . have⟨g1,_,o',a5,e4⟩:=D.dnOk j d' v' O;exact i8 b0 (a6 j (List.mem_append.2 (.inr g1))) c0 a5 e4 (D.val j d' v' O W)
    . have⟨g1,g2,g3⟩:=D.adOk p hp;have⟨o',a5,e4,_⟩:=(D.asSp _ g1).1;exact i8 b0 (a6 _ (List.mem_append.2 (.inl (VL.2 ⟨_,g1,rfl⟩)))) c0 a5 e4 g3
  have l7:∀ {js:List Nat},(∀ p∈js,listed.getD p false=true)->Ok n (JI a8 js E) a:=λh=>⟨D.size,D.defers,AiT D.env λj d v O k0=>D.val j d v O (h j k0)⟩;have g9:Ok n (JI a8 (EX o) E) a:=l7 d6
  have h0:∀ j o',(listed.setIfInBounds i true).getD j false=true->ops[j]? = some o'->∀ p∈EX o',(listed.setIfInBounds i true).getD p false=true:=by
    intro j o' h a5 p hp;rw[HN a3] at h ⊢;rcases h with rfl | h
    . rw[ho] at a5; cases a5; exact .inr (d6 p hp)
    . exact .inr (D.down j o' h a5 p hp)
  have i1:∀ p∈d0,p.1.i≠i:=λp hp e=>by have:=(D.adOk p hp).2.1;rw[e,f2] at this; cases this
  have g6:∀ {a':Act} {v:Value},a'=a.put o.dst v->∀ p∈d0,p.1∈d1∧(listed.setIfInBounds i true).getD p.1.i false=true∧a'.tmps[p.1.d]? = some (p.1.val p.2):=λb0 p hp=>
    ⟨(D.adOk p hp).1,(HN a3).2 (.inr (D.adOk p hp).2.1),(f3 b0).2.2.2 p hp (i1 p hp)⟩
  by_cases hiX:i∈X'
  . -- a step that was shown already
    have j9:=D.outX i hiX f2;have⟨o2,d,v,J,h2,e5,h3,h4⟩:=D.pendL.get i j9;rw[ho] at J; cases J;refine sX D.defers ho (λe a w hq=>⟨hq.1,hq.2.1⟩) (h4 _ a w g9 D.sat) λa' w' d5 hp=>?_;have⟨v',c2⟩:=hp;have⟨g1,g2,g3,_⟩:=f3 c2;refine ih ⟨D.draw,D.shape,d5.2.2.2,g1,d5.2.1,g2 _ (λd2 d4=>by rw[h2] at d4; cases d4; exact e5) D.env,by simpa using D.lsize,?_,D.have_,D.dnOk,?_,?_,D.pendL,h0,D.asX,D.asNd,D.asSp,g6 c2,?_,D.adNd⟩ d8 d7 g7 a6 e7 h5
    . intro j d' v2 O W;by_cases e:j=i
      . subst e;have d4:=(D.dnOk j d' v2 O).2.1;rw[h3] at d4;cases d4;exact d5.2.2.1
      . exact g3 j d' v2 O e (((HN a3).1 W).resolve_left e)
    . intro j h;rcases(HN a3).1 h with rfl | h
      . exact List.mem_append.2 (.inr hiX)
      . exact D.inX j h
    . intro j h W;refine D.outX j h ?_
      cases hl':listed.getD j false with
      | false=>rfl
      | true=>rw[(HN a3).2 (.inr hl')] at W; cases W
    . intro s hs W;rcases(HN a3).1 W with e | W
      . exact absurd hiX (D.asX i (VL.2 ⟨s,hs,e⟩))
      . exact D.adAll s hs W
  . by_cases hia:i∈O3 d1
    . -- a step that makes a block
      obtain⟨s,hs,rfl⟩:=VL.1 hia;have⟨⟨o2,e6,d4,hsp⟩,hen⟩:=D.asSp s hs;rw[ho] at e6; cases e6;have⟨_,k4,e5⟩:=hen o ho;refine sX D.defers ho (λe a w hq=>⟨hq.1,hq.2.1⟩) (hsp _ _ D.shape _ a w (by rw[<-k4]; exact g9) D.sat) λa' w' d5 hp=>?_;have⟨v',c2⟩:=hp;have⟨g1,g2,g3,_⟩:=f3 c2;have⟨_,f7,b,V,k6⟩:=d5;refine ih (ad:=(s,b) :: d0) ⟨D.draw,D.shape,k6,g1,f7,g2 _ (λd3 e8=>by rw[d4] at e8; cases e8; exact e5) D.env,by simpa using D.lsize,?_,D.have_,D.dnOk,?_,?_,D.pendL,h0,D.asX,D.asNd,D.asSp,?_,?_,?_⟩ d8 d7 g7 a6 e7 h5
      . intro j d' v2 O W;have c0:j≠s.i:=λe=>hiX (e▸(D.dnOk j d' v2 O).1);exact g3 j d' v2 O c0 (((HN a3).1 W).resolve_left c0)
      . intro j h;rcases(HN a3).1 h with rfl | h
        . exact List.mem_append.2 (.inl hia)
        . exact D.inX j h
      . intro j h W;refine D.outX j h ?_
        cases hl':listed.getD j false with
        | false=>rfl
        | true=>rw[(HN a3).2 (.inr hl')] at W; cases W
      . intro p hp;rcases List.mem_cons.1 hp with rfl | hp
        . exact⟨hs,(HN a3).2 (.inl rfl),V⟩
        . exact g6 c2 p hp
      . intro s' h9 W;rcases(HN a3).1 W with e | W
        . have h8:=D.asNd;rw[rQ] at h8;rw[QO h8 h9 hs e];exact⟨b,by simp⟩
        . have⟨b',j3⟩:=D.adAll s' h9 W;exact⟨b',gV _ j3⟩
      . simp only[P9,sQ,hM,not_exists,not_and];exact⟨λp hp=>i1 p hp,D.adNd⟩
    have f8:i ∉ O3 d1++X':=λO=>(List.mem_append.1 O).elim hia hiX
    -- the next step that turns memory
    rcases f6 with rfl | ⟨r,rfl,c,Z,W⟩ | ⟨c,r,o2,rfl,e6,j4,k9,p',k3,g8⟩
    . exact absurd ((e7 i f9).resolve_right (by simp[T7])) f8
    . have hd:=D.draw;simp only[DrawD] at hd;rcases AgD 0 hd.1 i o (by rw[Ad9]; exact ho) with V | V | V
      . exact absurd (by simpa using V) f8
      . exact absurd (λp hp=>D.inX p (d6 p hp)) V
      . rw[d6 c (V c Z)] at W; cases W
    . have j8:i=c:=by
        rcases AaQ 0 j4 i o (by rw[Ad9]; exact ho) with V | V | V
        . exact absurd (by simpa using V) f8
        . simpa using V
        . exact absurd (λp hp=>D.inX p (d6 p hp)) V
      subst j8;rw[ho] at e6; cases e6;refine sX D.defers ho (λe a w hq=>⟨hq.1,hq.2.1⟩) (g8 _ a w g9 D.sat) λa' w' d5 hp=>?_;have⟨v',c2⟩:=hp;have⟨g1,g2,g3,_⟩:=f3 c2;have⟨_,f7,_,_,f1,U,k5,j1,k2,j7⟩:=d5;simp only[T7,sQ] at d7;have i4:∀ d v,(i,d,v) ∉ a8:=λd v O=>hiX (D.dnOk i d v O).1
      have e2:∀ j d v,(j,d,v)∈f1->(j,d,v)∈a8∨(j=i∧o.dst=some d∧a'.tmps[d]? = some v):=by
        intro j d v O;unfold fU at U
        cases c1:o.dst with
        | none=>rw[c1] at U; subst U; exact .inl O
        | some d2=>
          rw[c1] at U;obtain⟨v2,e1,rfl⟩:=U
          cases O with
          | head=>exact .inr ⟨rfl,rfl,e1⟩
          | tail _ O=>exact .inl O
      have i5:∀ j d v,(j,d,v)∈a8->(j,d,v)∈f1∧I8 f1 j=I8 a8 j:=by
        intro j d v O;have e9:j≠i:=λe=>by subst e; exact i4 _ _ O
        unfold fU at U
        cases c1:o.dst with
        | none=>rw[c1] at U; subst U; exact⟨O,rfl⟩
        | some d2=>
          rw[c1] at U;obtain⟨v2,e1,rfl⟩:=U;exact⟨gV _ O,by simp only[I8,sZ (Ne.symm e9),cond_false]⟩
      have l8:∀ {js:List Nat},i ∉ js->JI f1 js E=JI a8 js E:=by
        intro js h;unfold fU at U
        cases c1:o.dst with
        | none=>rw[c1] at U; subst U; rfl
        | some d2=>
          rw[c1] at U;obtain⟨v2,e1,rfl⟩:=U;have k1:L6 js i=false:=by cases O:L6 js i with | false=>rfl | true=>exact absurd (EO.1 O) h
          simp only[JI,k1,cond_false]
      refine ih ⟨j7,k5,j1,g1,f7,g2 _ (λd3 e8=>AdA e8) (AoC D.env),by simpa using D.lsize,?_,?_,?_,?_,?_,k2,h0,?_,D.asNd,?_,g6 c2,?_,D.adNd⟩ (λc' e3 O=>?_) d7.2 (λc Z=>g7 c (gV _ Z)) (λc Z=>?_) (λj h=>?_) h5
      . intro j d v O W;rcases e2 j d v O with O | ⟨rfl,_,hv⟩
        . have e9:j≠i:=λe=>by subst e; exact i4 _ _ O
          exact g3 j d v O e9 (((HN a3).1 W).resolve_left e9)
        . exact hv
      . intro j o2 d h hd O;rcases List.mem_cons.1 O with rfl | O
        . rw[ho] at h; cases h;unfold fU at U;rw[hd] at U;obtain⟨v2,_,rfl⟩:=U;exact⟨v2,by simp⟩
        . have⟨v,hv⟩:=D.have_ j o2 d h hd O;exact⟨v,(i5 j d v hv).1⟩
      . intro j d v O;rcases e2 j d v O with f0 | ⟨rfl,hd,hv⟩
        . exact⟨gV _ (D.dnOk j d v f0).1,(i5 j d v f0).2.trans (D.dnOk j d v f0).2.1,(D.dnOk j d v f0).2.2⟩
        . refine⟨by simp,?_,o,ho,hd⟩;unfold fU at U;rw[hd] at U;obtain⟨v2,e1,rfl⟩:=U;rw[hv] at e1; cases e1;simp[I8]
      . intro j h;simp only[rG,SK];rcases(HN a3).1 h with rfl | h
        . exact .inr (.inl rfl)
        . exact(List.mem_append.1 (D.inX j h)).imp id .inr
      . intro j h W
        have g0:listed.getD j false=false:=by
          cases hl':listed.getD j false with
          | false=>rfl
          | true=>rw[(HN a3).2 (.inr hl')] at W; cases W
        rcases List.mem_cons.1 h with rfl | h
        . rw[(HN a3).2 (.inl rfl)] at W; cases W
        . rcases k3 j (D.outX j h g0) with J | ⟨k,J⟩
          . exact J
          . rw[AgC D.down k j i o ho d6 J] at g0; cases g0
      . intro c Z O;rcases List.mem_cons.1 O with rfl | O
        . exact hia Z
        . exact D.asX c Z O
      . intro s hs;have⟨q1,q2⟩:=D.asSp s hs;have j0:XA o E=E:=k9.resolve_left λe=>by subst e; cases hs
        refine⟨q1,λo' a5=>⟨λp hp=>gV _ ((q2 o' a5).1 p hp),?_⟩⟩;rw[j0,l8 λO=>hiX ((q2 o' a5).1 i O)];exact(q2 o' a5).2
      . intro s hs W;rcases(HN a3).1 W with e | W
        . exact absurd (VL.2 ⟨s,hs,e⟩) hia
        . exact D.adAll s hs W
      . simp only[rG,SK] at O;rcases O with O | rfl | O
        . exact d8 c' (by simp[T7,e3]) (List.mem_append.2 (.inl O))
        . exact d7.1 e3
        . exact d8 c' (by simp[T7,e3]) (List.mem_append.2 (.inr O))
      . simp only[rG,SK] at Z;rcases Z with Z | rfl | Z
        . exact a6 c (List.mem_append.2 (.inl Z))
        . exact f9
        . exact a6 c (List.mem_append.2 (.inr Z))
      . have:=e7 j h;simp only[rG,SK,T7] at this ⊢;rcases this with(J | J) | rfl | J
        . exact .inl (.inl J)
        . exact .inl (.inr (.inr J))
        . exact .inl (.inr (.inl rfl))
        . exact .inr J
def tB:List Nat->Bool
 | []=>true
 | x :: l=>!L6 l x && tB l
theorem pX:∀ {l:List Nat},tB l=true->l.Nodup
 | [],_=>.nil
 | x :: l,h=>by simp only[tB,aR,Bool.not_eq_true'] at h;exact List.nodup_cons.2 ⟨sY h.1,pX h.2⟩
theorem Cod.draw {id:Nat} {l:List Oper} {I:IH} (cs:List (Option Nat)) (t:Nat) (W:P.follows .mixedOrders=true) (h1:iA n (l.take t) []=true) (h2:iB l 0=true)
   (h3:WN (l.drop t) t=true) (h4:tB (T7 cs)=true) (h5:Nat.ble t l.length=true) (O:(T7 cs).all (Nat.blt · t)=true) (U:QZ (T7 cs) t=true) (L:Sh) (Z:∀ X ex,Del (L (X :: ex)) X (L ex)) (he:l0=L [])
   (h:DrawD P l.toArray n Q w0 M I0 E cs [] [] [] [] I L):Cod P (.region id l.toArray true) n E (Sym w0 M I0 I l0) Q:=by
 intro a w D J
 refine wpIn_region_any W (Al5 (t:=t) (by simpa using h1) (by simpa using h2) (by simpa using h3) (by simpa using h5) _ (cs:=cs) (dn:=[]) (X:=[]) (pend:=[]) (as:=[]) (I:=I) (L:=L) (ad:=[])
   ⟨h,λX ex=>(Z X ex).perm,by rw[he] at J; exact J.drew _ (AiR _),D.size,D.defers,D.env,by simp,by simp,by simp,by simp,?_,by simp,trivial,?_,by simp[O3],by simp[O3],by simp,by simp,by simp,by simp⟩ (by simp[O3]) (pX h4) (λc V=>by have:=List.all_eq_true.1 O c V; simpa[Nat.blt_eq] using this) (by simp[O3]) (λi hi=>.inr (YI U hi)) (by simp))
 . intro i hi;simp only[jY,Array.getElem?_replicate] at hi;split at hi <;> simp at hi
 . intro i o hi;simp only[jY,Array.getElem?_replicate] at hi;split at hi <;> simp at hi
section
variable {cs:List (Option Nat)} {c d:Nat} {dn:HX} {X pend:List Nat} {as:List AS} {I:IH} {L:Sh} {o:Oper} {v:Value}
theorem DrawD.f (js:List Nat) (J:ops[c]? = some o) (U:EX o=js) (O:o.dst=some d) (D:fresh E d=true)
  (h:∀ ex,Ops P ops [o] n (JI dn js E) (Sym w0 M I0 I (L ex)) (Fin n (Sym w0 M I0 I (L ex)) d v)) (k:DrawD P ops n Q w0 M I0 E cs ((c,d,v) :: dn) (c :: X) (c :: pend) as I L):DrawD P ops n Q w0 M I0 E (some c :: cs) dn X pend as I L:=
 ⟨o,J,.inl ⟨d,v,O,D,by rw[U]; exact h,k⟩⟩
theorem Fin.mk {S:World->Prop} {d:Nat} {v:Value} {E:DF}:Ops P ops [] n ((d,v) :: E) S (Fin n S d v):=λ_ _ h D=>⟨rfl,h.defers,h.env.1,D⟩
def APost (n:FrK) (w0:World) (M:Nat->Prop) (I0 I:IH) (d:Nat) (val:Nat->Value) (atom:Nat->HA) (L:Sh) (ex:List HA):Exit->Act->World->Prop:=λe a w=>e=.normal∧a.defers=n.defs∧∃ b,a.tmps[d]? = some (val b)∧Sym w0 M I0 I (L (atom b :: ex)) w
theorem APost.mk {val:Nat->Value} {atom:Nat->HA} (J:ShOk L) (b:Nat) {E':DF}:Ops P ops [] n ((d,val b) :: E') (Sym w0 M I0 I (atom b :: L ex)) (APost n w0 M I0 I d val atom L ex):=
 λ_ _ h D=>⟨rfl,h.defers,b,h.env.1,D.perm (J _ _).symm⟩
theorem DrawD.a (val:Nat->Value) (atom:Nat->HA) (J:ops[c]? = some o) (O:o.dst=some d) (D:fresh E d=true) (hi:AaP X (EX o)=true)
  (h:∀ (I:IH) (L:Sh),ShOk L->∀ ex,Ops P ops [o] n (JI dn (EX o) E) (Sym w0 M I0 I (L ex)) (APost n w0 M I0 I d val atom L ex))
  (k:DrawD P ops n Q w0 M I0 E cs dn X pend (⟨c,d,JI dn (EX o) E,val,atom⟩ :: as) I L):DrawD P ops n Q w0 M I0 E (some c :: cs) dn X pend as I L:=
 ⟨o,J,.inr (.inl ⟨d,val,atom,O,D,hi,⟨o,J,O,h⟩,k⟩)⟩
theorem DrawD.b (J:Ad6 (O3 as) X ops.toList 0=true) (k:barD as dn L λh D=>DrawD P ops n Q w0 M I0 E cs h (O3 as++X) pend [] I D):DrawD P ops n Q w0 M I0 E (none :: cs) dn X pend as I L:=⟨J,k⟩
theorem DrawD.nop (h:DrawD P ops n Q w0 M I0 E cs dn X pend as I L):DrawD P ops n Q w0 M I0 E cs dn X pend as I L:=h
def WPost (P:Program) (ops:Array Oper) (n:FrK) (E:DF) (Q:Exit->Act->World->Prop) (w0:World) (M:Nat->Prop) (I0:IH) (o:Oper) (c:Nat) (cs:List (Option Nat)) (dn:HX) (X h:List Nat) (as:List AS) (ex:List HA):Exit->Act->World->Prop:=
 λe a w=>e=.normal∧a.defers=n.defs∧∃ O J D,fU o c dn a D∧ShOk J∧Sym w0 M I0 O (J ex) w∧PendL P ops n E D (λex=>Sym w0 M I0 O (J ex)) h∧DrawD P ops n Q w0 M I0 E cs D (c :: X) h as O J
theorem WPost.some {h:List Nat} {E':DF} (L:Sh) (U:l0=L ex) (O:∀ X ex,Del (L (X :: ex)) X (L ex)) (V:o.dst=some d) (hp:PendL P ops n E ((c,d,v) :: dn) (λex=>Sym w0 M I0 I (L ex)) h)
  (k:DrawD P ops n Q w0 M I0 E cs ((c,d,v) :: dn) (c :: X) h as I L):Ops P ops [] n ((d,v) :: E') (Sym w0 M I0 I l0) (WPost P ops n E Q w0 M I0 o c cs dn X h as ex):=
 λ_ _ J D=>⟨rfl,J.defers,I,L,_,by unfold fU; rw[V]; exact⟨v,J.env.1,rfl⟩,λX ex=>(O X ex).perm,by rw[U] at D; exact D,hp,k⟩
theorem WPost.none {h:List Nat} {E':DF} (L:Sh) (O:l0=L ex) (J:∀ X ex,Del (L (X :: ex)) X (L ex)) (V:o.dst=none) (hp:PendL P ops n E dn (λex=>Sym w0 M I0 I (L ex)) h)
  (k:DrawD P ops n Q w0 M I0 E cs dn (c :: X) h as I L):Ops P ops [] n E' (Sym w0 M I0 I l0) (WPost P ops n E Q w0 M I0 o c cs dn X h as ex):=
 λ_ _ U D=>⟨rfl,U.defers,I,L,_,by unfold fU; rw[V],λX ex=>(J X ex).perm,by rw[O] at D; exact D,hp,k⟩
theorem DrawD.e (t:Nat) (D:QZ X t=true) (O:X.all (Nat.blt · t)=true) (J:WN (ops.toList.drop t) t=true) (k:Ops P ops (ops.toList.drop t) n (Ao9 dn E) (Sym w0 M I0 I (L [])) Q):DrawD P ops n Q w0 M I0 E [] dn X pend [] I L:=
 ⟨rfl,t,D,λx h=>by have:=List.all_eq_true.1 O x h; simpa[Nat.blt_eq] using this,J,k⟩
end
end
section
variable {w0 w:World} {M:Nat→Prop} {I0 I:IH} {m m':List HA}
variable {P:Program} {n:FrK} {E:DF} {S:World→Prop} {Q:Exit→Act→World→Prop} {ops:Array Oper} {l:List Oper}
variable {d ty:Nat} {pos:String} {af:Array Edge} {T e:TypeId} {x y:Operand}
variable {α:Type} {El:EB α} {xs ys:List α} {a:Option Addr} {cap:Nat}
/-! ### Changes of what is known -/
variable {fn:Func} {rs:List ResultVar} {ψ:IH→Value→Prop} {ds:List Nat}
theorem Cod.drop {c:Code} {A:HA} (D:Del m A m') (k:Cod P c n E (Sym w0 M I0 I m') Q):Cod P c n E (Sym w0 M I0 I m) Q:=Cod.pre (λ_ h=>(h.del D).drop) k
theorem Ops.own0 (El:EB α) (T:TypeId) (k:Ops P ops l n E (Sym w0 M I0 I (OwnSl El T none 0 [] :: m)) Q):Ops P ops l n E (Sym w0 M I0 I m) Q:=Ops.pre (λ_ h=>h.own0 El T) k
theorem Cod.own0 {c:Code} (El:EB α) (T:TypeId) (k:Cod P c n E (Sym w0 M I0 I (OwnSl El T none 0 [] :: m)) Q):Cod P c n E (Sym w0 M I0 I m) Q:=Cod.pre (λ_ h=>h.own0 El T) k
theorem Ops.pub (V:Del m (OwnSl El T a cap xs) m') (k:∀ h,I.le h->RepSl El h a cap xs->Ops P ops l n E (Sym w0 M I0 h m') Q):Ops P ops l n E (Sym w0 M I0 I m) Q:=
 λc w O D=>by have⟨h,W,U,J⟩:=D.pubSl V; exact k h W U c w O J
theorem Cod.pub {c:Code} (V:Del m (OwnSl El T a cap xs) m') (k:∀ h,I.le h->RepSl El h a cap xs->Cod P c n E (Sym w0 M I0 h m') Q):Cod P c n E (Sym w0 M I0 I m) Q:=
 λc w O D=>by have⟨h,W,U,J⟩:=D.pubSl V; exact k h W U c w O J
theorem oB {f:FuncId} {args:Array Value} {R:Ending->World->Prop} (h:Calls P f args w R):CallsIn (WM n) 0 P f args w R:=callsIn_wide.2 h
def evs (E:DF):List Operand->Option (List Value)
 | []=>some []
 | x :: r=>match ev E x,evs E r with
  | some v,some vs=>some (v :: vs)
  | _,_=>none
theorem VM {c:Act} (D:Ok n E c):∀ {xs:List Operand} {vs:List Value},evs E xs=some vs->xs.map c.eval=vs:=by
 intro xs
 induction xs with
 | nil=>grind[evs]
 | cons x r J=>
  intro vs h;simp only[evs] at h
  cases O:ev E x with
  | none=>rw[O] at h; simp at h
  | some v=>
   cases U:evs E r with
   | none=>grind
   | some V=>rw[O,U] at h; simp at h; subst h; simp[D.eval O,J U]
def B6 (P:Program) (f:FuncId) (vs:List Value) (I:IH) (ψ:IH->Value->Prop):Prop:=Fun P f vs.toArray I [] λh v l=>l=[]∧ψ h v
theorem Ops.callF {g:FuncId} {args:List Operand} {vs:List Value} {O:Array TypeId} {mf mr:List HA} {φ:IH->Value->List HA->Prop} (hg:∀ as w,(callFunc g as).run P w=.ok (.enter g as) w)
  (ha:evs E args=some vs) (hf:Fun P g vs.toArray I mf φ) (hb:Nat.blt d n.sz=true) (Z:fresh E d=true)
  (k:∀ v D U,I.le D->φ D v U->Ops P ops l n ((d,v) :: E) (Sym w0 M I0 D (U++mr)) Q) :
  Ops P ops (⟨some d,.call ⟨.value (.func g),args.toArray,O⟩,ty,pos,af,none⟩ :: l) n E (Sym w0 M I0 I (mf++mr)) Q:=by
 intro c w h hs;refine wpListIn_plain rfl λ_ hK=>?_
 have J:(execOp c.eval ⟨some d,.call ⟨.value (.func g),args.toArray,O⟩,ty,pos,af,none⟩).run P w=.ok (.enter g vs.toArray) w:=by
  have e:args.toArray.map c.eval=vs.toArray:=by simp[VM h ha]
  simp only[execOp,resolve,e,Act.eval,Deferred.ofValue,Sem.run_bind,Sem.run_pure,Result.andThen_ok,invoke];simp[hg]
 refine kC J (by simp) ?_;simp only[Oper.uponIn];refine⟨λa2=>(by cases a2),oB (hf.use hs λv D U _ V hφ W=>hK _ _ (k v D U V hφ _ _ (h.put hb Z v) W))⟩
theorem Ops.call {g:FuncId} {args:List Operand} {vs:List Value} {J:Array TypeId} (U:∀ as w,(callFunc g as).run P w=.ok (.enter g as) w)
  (ha:evs E args=some vs) (hf:B6 P g vs I ψ) (W:Nat.blt d n.sz=true) (O:fresh E d=true)
  (k:∀ v h,I.le h->ψ h v->Ops P ops l n ((d,v) :: E) (Sym w0 M I0 h m) Q) :
  Ops P ops (⟨some d,.call ⟨.value (.func g),args.toArray,J⟩,ty,pos,af,none⟩ :: l) n E (Sym w0 M I0 I m) Q:=
 Ops.callF (mf:=[]) (mr:=m) U ha hf W O λv h _ D Z=>by obtain⟨rfl,V⟩:=Z; exact k v h D V
abbrev IF (P:Program) (fn:Func) (R:Ending->World->Prop):Exit->Act->World->Prop:=bodyPostM Fence.wide 0 P fn R
inductive ArgsE:Nat→List Value→DF→Prop
 | n {i:Nat}:ArgsE i [] []
 | c {i:Nat} {v:Value} {vs:List Value} {E:DF} (h:ArgsE (i+1) vs E):ArgsE i (v :: vs) ((i,v) :: E)
theorem ArgsE.ok {i:Nat} {vs:List Value} {E:DF} (h:ArgsE i vs E):∀ (D:List Value) (r:Array Value),D.length=i->EnvOk E { tmps:=(D++vs).toArray++r,defers:=[] }:=by
 induction h with
 | n=>exact λ_ _ _=>trivial
 | @c i v vs E _ O=>
  intro D r J;refine⟨?_,?_⟩
  . grind
  . have:=O (D++[v]) r (by simp[J]);grind
theorem Fun.enter {f:FuncId} {c:Code} {z:Nat} {vs:List Value} {l:List HA} {φ:IH->Value->List HA->Prop} (W:P.funcs[f]? = some fn) (J:fn.body=some c) (hn:fn.ntmps=z) (Z:Nat.ble vs.length z=true) (U:ArgsE 0 vs E)
   (k:∀ w M,Cod P c ⟨z,[],none⟩ E (Sym w M I I l) (IF P fn (SA w M I φ))):Fun P f vs.toArray I l φ:=by
 intro w h hi V O D;refine callsIn_wide.1 (callsIn_of_wp_marks W J trivial (k w _ _ w ⟨?_,rfl,?_⟩ (Fun.start hi V O D)))
 . simp_all
 . exact U.ok [] _ rfl
inductive ResR (P:Program) (E:DF) (m:List HA):List ResultVar→List Value→Prop
 | n:ResR P E m [] []
 | t {t:Nat} {v:Value} {rs:List ResultVar} {vs:List Value} (h:look E t=some v) (k:ResR P E m rs vs):ResR P E m (.tmp t :: rs) (v :: vs)
 | w {t b s:Nat} {T:TypeId} {cs:List Value} {m':List HA} {T':TypeId} {fz:Nat×Nat} {rs:List ResultVar} {vs:List Value} (hT:∀ w,(isAgg T).run P w=.ok true w) (hS:∀ w,(sizeOf T).run P w=.ok s w)
  (h:look E t=some (.pointer (some ⟨b,0,none⟩))) (hA:Del m (pto b (.cells cs.toArray T' fz)) m') (hl:cs.length=s) (k:ResR P E m rs vs):ResR P E m (.cell t T :: rs) (.agg cs.toArray :: vs)
 | s {t b:Nat} {T:TypeId} {v:Value} {m':List HA} {T':TypeId} {fz:Nat×Nat} {rs:List ResultVar} {vs:List Value} (hT:∀ w,(isAgg T).run P w=.ok false w) (h:look E t=some (.pointer (some ⟨b,0,none⟩)))
  (hA:Del m (pto b (.cells #[v] T' fz)) m') (k:ResR P E m rs vs):ResR P E m (.cell t T :: rs) (v :: vs)
def AgE (c:Act):ResultVar->Sem Value
 | .tmp t=>pure (c.tmps.getD t undef)
 | .cell a t=>do loadVar t (<-asAddr (c.tmps.getD a undef))
theorem ResR.run {vs:List Value} (h:ResR P E m rs vs) {c:Act} (O:Ok n E c) (W:Sym w0 M I0 I m w):(rs.mapM (AgE c)).run P w=.ok vs w:=by
 induction h with
 | n=>rfl
 | t h k D=>
  have e:=O.env.look h;rw[Ao6];simp only[AgE,jY,e,wT,Sem.run_bind,Sem.run_pure,Result.andThen_ok,D]
 | @w t b s T cs m' T' fz rs vs V hS h U J k D=>
  have e:=O.env.look h
  have J:(loadVar T ⟨b,0,none⟩).run P w=.ok (.agg cs.toArray) w:=by have:=L5 (P:=P) (w:=w) (T:=T) (b:=b) (off:=0) (vs:=cs) V hS J (λ_ v hj=>(N2 (W.del U).pto).trans (by simpa using hj));simpa[Instr.loadAt,Instr.sureAddr] using this
  rw[Ao6];simp only[AgE,jY,e,wT,Sem.run_bind,asAddr,Sem.run_pure,Result.andThen_ok,J,D]
 | @s t b T v m' T' fz rs vs V h U k D=>
  have e:=O.env.look h;have Z:w.cell? ⟨b,0,none⟩=some v:=(N2 (W.del U).pto).trans (by simp)
  have J:(loadVar T ⟨b,0,none⟩).run P w=.ok v w:=by have:=QY (P:=P) (w:=w) (T:=T) (b:=b) (off:=0) V Z;simpa[Instr.loadAt,Instr.sureAddr] using this
  rw[Ao6];simp only[AgE,jY,e,wT,Sem.run_bind,asAddr,Sem.run_pure,Result.andThen_ok,J,D]
def tup:List Value->Value
 | [v]=>v
 | vs=>.tuple vs.toArray
theorem ResR.resultsOf {vs:List Value} (h:ResR P E m rs vs) (V:fn.results=rs.toArray) {c:Act} (O:Ok n E c) (J:Sym w0 M I0 I m w):(results fn c.tmps).run P w=.ok (tup vs) w:=by
 have D:=h.run O J
 have e:∀ f:ResultVar->Sem Value,(∀ r,f r=AgE c r)->fn.results.mapM f=(do pure (<-rs.mapM (AgE c)).toArray:Sem (Array Value)):=λf U=>by rw[V,AuI,map_eq_pure_bind,show f=AgE c from funext U]
 unfold Go.results;rw[e _ (λr=>by cases r <;> rfl)];simp only[Sem.run_bind,D,Result.andThen_ok,Sem.run_pure];congr 1
 match vs with
 | []=>rfl
 | [v]=>rfl
 | u :: v :: r=>simp[tup]
def AuL (A B:HA):HA where
 holds I h:=∃ h1 h2:IH,h1.disj h2∧h1.le h∧h2.le h∧A.holds I h1∧B.holds I h2
 mono hI hh:=λ⟨h1,h2,a,b,c,d,e⟩=>⟨h1,h2,a,b.trans hh,c.trans hh,A.mono hI (IH.le.refl _) d,B.mono hI (IH.le.refl _) e⟩
def AwZ:HA:=⟨λ_ _=>True,λ_ _ _=>trivial⟩
theorem Sym.emp:Sym w0 M I0 I (AwZ :: m) w↔Sym w0 M I0 I m w:=by
 constructor
 . exact λh=>h.drop
 . rintro⟨V,hi,O,k,J,hk,U,D⟩;exact⟨V,hi,O,k,⟨λ_=>none,k,λ_=>.inl rfl,(λ_ _ x=>nomatch x),IH.le.refl _,trivial,J⟩,hk,U,D⟩
theorem Sym.star {A B:HA}:Sym w0 M I0 I (AuL A B :: m) w↔Sym w0 M I0 I (A :: B :: m) w:=by
 constructor
 . rintro⟨U,hi,O,k,⟨h1,h2,hd',hl1,hl2,⟨W,V,a,b,c,d,e⟩,hs'⟩,hk,hdj,hm⟩;refine⟨U,hi,O,k,⟨W,V.union h2,?_,b.trans hl1,IH.union_le (c.trans hl1) hl2,d,V,h2,hd'.mono c (IH.le.refl _),IH.le_union_left _ _,IH.le_union_right (hd'.mono c (IH.le.refl _)),e,hs'⟩,hk,hdj,hm⟩;intro x;rcases a x with h | h
   . exact .inl h
   . rcases(hd'.mono b (IH.le.refl h2)) x with D | D
     . exact .inl D
     . right; simp[IH.union,h,D]
 . rintro⟨U,hi,O,k,⟨h1,h2,hd',hl1,hl2,ha,h3,h4,hd2,hl3,hl4,hb2,hs'⟩,hk,hdj,hm⟩;have J:=hd'.mono (IH.le.refl _) hl3;refine⟨U,hi,O,k,⟨h1.union h3,h4,?_,IH.union_le hl1 (hl3.trans hl2),hl4.trans hl2,⟨h1,h3,J,IH.le_union_left _ _,IH.le_union_right J,ha,hb2⟩,hs'⟩,hk,hdj,hm⟩;intro x;rcases hd2 x with h | h
   . rcases(hd'.mono (IH.le.refl _) hl4) x with D | D
     . left; simp[IH.union,h,D]
     . exact .inr D
   . exact .inr h
def NP:List Nat->HA
 | []=>AwZ
 | D :: ds=>AuL (pto D (.deferred (some []))) (NP ds)
theorem Sym.marks0 (h:Sym w0 M I0 I m w):Sym w0 M I0 I (NP [] :: m) w:=Sym.emp.2 h
theorem Sym.marksCons {D:Nat} :Sym w0 M I0 I (NP (D :: ds) :: m) w↔Sym w0 M I0 I (Fw.pto D (.deferred (some [])) :: NP ds :: m) w:=Sym.star
theorem AiW {vs:List Value} {tmps:Array Value} {R:Ending->World->Prop} (Z:fn.results=rs.toArray) (h:ResR P E m rs vs):∀ {ds:List Nat} {w:World} {c:Act},
  EnvOk E c->c.tmps=tmps->Sym w0 M I0 I (NP ds :: m) w->(∀ w',Sym w0 M I0 I m w'->R (.returned (tup vs)) w')->LeavesInM Fence.wide 0 P fn tmps R (ds.map mkM) .returning w
 | [],w,c,ho,ht,hs,hR=>by
  have J:=hs.drop
  have O:=h.resultsOf (n:=⟨c.tmps.size,[],none⟩) Z (c:={ tmps:=c.tmps,defers:=[] }) ⟨rfl,rfl,by
   clear h; induction E with
   | nil=>trivial
   | cons p E ih=>exact⟨ho.1,ih ho.2⟩⟩ J
  subst ht;exact⟨_,O,hR _ J⟩
 | D :: ds,w,c,ho,ht,hs,hR=>by have J:=Sym.marksCons.1 hs;have W:=J.pto;refine⟨by simp,.inl ⟨D,w.putObj D (.deferred none),rfl,run_takeDeferred W,?_⟩⟩;have U:D<w.heap.size:=(Array.getElem?_eq_some_iff.1 W).1;have V:=J.upd (o':=.deferred none) (w':=w.putObj D (.deferred none)) rfl rfl rfl rfl (by simp) (λ_ hq=>World.putObj_heap_other hq) (World.putObj_heap_same U);exact AiW Z h ho ht V.drop hR
theorem AoD {z:Nat} {J:List HA} (V:Del J (NP ds) m) {vs:List Value} {R:Ending->World->Prop} {c:Act} (D:Ok ⟨z,ds,none⟩ E c) (h:ResR P E m rs vs) (W:fn.results=rs.toArray) (O:Sym w0 M I0 I J w)
  (U:∀ w',Sym w0 M I0 I m w'->R (.returned (tup vs)) w'):LeavesInM Fence.wide 0 P fn c.tmps R c.defers .returning w:=by
 rw[D.defers];exact AiW W h D.env rfl (O.del V) U
theorem AoE {z:Nat} {vs:List Value} {R:Ending->World->Prop} {c:Act} (O:Ok ⟨z,[],none⟩ E c) (h:ResR P E m rs vs) (U:fn.results=rs.toArray) (D:Sym w0 M I0 I m w)
 (J:∀ w',Sym w0 M I0 I m w'->R (.returned (tup vs)) w'):LeavesInM Fence.wide 0 P fn c.tmps R c.defers .returning w:=AoD .z O h U D.marks0 J
theorem Sym.dropAll (h:Sym w0 M I0 I m w):Sym w0 M I0 I [] w:=by have⟨U,hi,J,k,_,hk,O,D⟩:=h;exact⟨U,hi,J,k,trivial,hk,O,D⟩
theorem B7 {z:Nat} {vs:List Value} (W:fn.results=rs.toArray) (h:ResR P E m rs vs) (D:I0.le I) (U:ψ I (tup vs)) :
 ∀ c w,Ok ⟨z,[],none⟩ E c->Sym w0 M I0 I m w->IF P fn (SA w0 M I0 λO v l=>l=[]∧ψ O v) .ret c w:=λ_ _ V J=>AoE V h W J λ_ J=>⟨_,I,[],rfl,D,⟨rfl,U⟩,J.dropAll⟩
theorem yP {z:Nat} {O:List HA} (Z:Del O (NP ds) m) {vs:List Value} (hr:fn.results=rs.toArray) (h:ResR P E m rs vs) (D:I0.le I) (V:ψ I (tup vs)) :
 ∀ c w,Ok ⟨z,ds,none⟩ E c->Sym w0 M I0 I O w->IF P fn (SA w0 M I0 λU v l=>l=[]∧ψ U v) .ret c w:=λ_ _ W J=>AoD Z W h hr J λ_ J=>⟨_,I,[],rfl,D,⟨rfl,V⟩,J.dropAll⟩
def AR (xs:List α) (i:Int) (K:α->Prop):Prop:=0<=i∧∃ x,xs[i.toNat]? = some x∧K x
def DW (B:Nat) (xs ys:List α) (K:List α->Prop):Prop:=(xs.length+ys.length)*B<=140737488355328∧K (xs++ys)
end
section
variable {w0 w:World} {M:Nat→Prop} {I0 I:IH} {m m':List HA}
variable {P:Program} {n:FrK} {E:DF} {S:World→Prop} {Q:Exit→Act→World→Prop} {ops:Array Oper} {l:List Oper}
variable {d ty:Nat} {pos:String} {af:Array Edge} {T e:TypeId} {x y:Operand}
variable {α:Type} {El:EB α} {xs ys:List α} {a:Option Addr} {cap:Nat}
/-! ### Pure parts -/
variable {φ:IH→Value→List HA→Prop} {parts:List (Nat×Operand)} {len:Nat} {rs:List ResultVar} {fn:Func}
def slP (xs:List α) (lo hi:Int) (K:List α->Prop):Prop:=0<=lo∧lo<=hi∧hi<=(xs.length:Int)∧K ((xs.take hi.toNat).drop lo.toNat)
def nzP (b:Int) (K:Prop):Prop:=b≠0∧K
def nnP (b:Int) (K:Prop):Prop:=0<=b∧K
def mkP (B:Nat) (c:Int) (z:α) (K:List α->Prop):Prop:=0<=c∧c*B<=140737488355328∧K (List.replicate c.toNat z)
def EP {σ:Type} (m:(σ->Prop)->Prop) (k:σ->Prop):Prop:=m k
theorem BF {i:Int} {v:α} (h:xs[i.toNat]? = some v) (D:0<=i):i<(xs.length:Int):=by grind
theorem DJ {i:Nat} {v:α} (h:xs[i]? = some v):xs≠[]:=λe=>by subst e; simp at h
theorem split {G:Prop} (b:Bool) (D:b=true->G) (h:b=false->G):G:=by cases b <;> simp_all
theorem Cod.joinQ {σ:Type} {c:Code} {J:(σ->Prop)->Prop} {k:σ->Prop} (V:EP J k) (D:σ->Act->World->Prop) (Z:∀ k,J k->Cod P c n E S (Exit.then (λa w=>∃ s,k s∧D s a w) Q))
  (W:∀ s,k s->∀ a w,D s a w->Q .normal a w):Cod P c n E S Q:=
 λa w U O=>Code.wpIn_mono (λe a w q=>by cases e <;> first | exact q | exact(let ⟨s,hk,h⟩:=q; W s hk a w h)) (Z k V a w U O)
inductive Pick:List HA→List HA→Prop
 | n {l:List HA}:Pick l []
 | c {l m r:List HA} {A:HA} (h:Del l A m) (k:Pick m r):Pick l (A :: r)
theorem Al6 {l r:List HA} (hp:Pick l r):∀ {h:IH},O2 l I h->O2 r I h:=by
 induction hp with
 | n=>intros; trivial
 | c V _ W=>
  intro h Z;have⟨h1,h2,J,D,O,ha,U⟩:=kB V Z;exact⟨h1,h2,J,D,O,ha,W U⟩
theorem Sym.pick (h:Sym w0 M I0 I m w) (hp:Pick m m'):Sym w0 M I0 I m' w:=by have⟨V,hi,O,k,J,hk,U,D⟩:=h;exact⟨V,hi,O,k,Al6 hp J,hk,U,D⟩
theorem Cod.ownF {c:Code} (O:Del m (OwnSl El T a cap xs) m') (k:(xs≠[]->∃ b,a=some ⟨b,0,none⟩)->Cod P c n E (Sym w0 M I0 I m) Q):Cod P c n E (Sym w0 M I0 I m) Q:=by
 intro c w D h;refine k (λ_=>?_) c w D h;have⟨_,U,_⟩:=(h.del O).get;rcases U with⟨_,V,_⟩ | ⟨b,_,J,_⟩
 all_goals grind
theorem Ops.ownNe (U:Del m (OwnSl El T a cap xs) m') (h:xs≠[]) (k:∀ b,a=some ⟨b,0,none⟩->Ops P ops l n E (Sym w0 M I0 I m) Q):Ops P ops l n E (Sym w0 M I0 I m) Q:=by
 intro c w J D;have⟨_,W,_⟩:=(D.del U).get;rcases W with⟨_,O,_⟩ | ⟨b,_,V,_⟩
 . exact absurd O h
 . exact k b V c w J D
inductive oC (E:DF) (s:Nat):Nat→List (Nat×Operand)→List Value→Prop
 | n {i:Nat}:oC E s i [] []
 | c {i:Nat} {x:Operand} {v:Value} {vs cs:List Value} {r:List (Nat×Operand)} (hx:ev E x=some v) (hv:cellsOf v=vs) (hl:vs.length=s) (k:oC E s (i+1) r cs):oC E s i ((i,x) :: r) (vs++cs)
theorem AgF {s:Nat} {ev':Operand->Value} (V:∀ x v,ev E x=some v->ev' x=v) {i:Nat} {cs:List Value} (h:oC E s i parts cs) :
  ∀ z:Array Value,z.size=i*s+parts.length*s->Instr.fill (λi=>some (i*s,s)) z (parts.map λp=>(p.1,ev' p.2))=some (z.toList.take (i*s)++cs).toArray:=by
 induction h with
 | n=>intro z D; simp at D; simp only[AiP,Instr.fill,kA]; rw[AnF (by simp; omega)]
 | @c i x v vs cs r Z J hl k O=>
  intro z D;simp only[gY,WL,sS] at D;have W:(ev' x).cells=vs.toArray:=by rw[V x v Z,TK,J]
  simp only[P9,Instr.fill,W];rw[if_neg (by simp; omega)]
  have U:vs.toArray.zipIdx.foldl (λcs (p:Value×Nat)=>cs.setIfInBounds (i*s+p.2) p.1) z=(z.toList.take (i*s)++vs++z.toList.drop (i*s+vs.length)).toArray:=by rw[<-AiC,AnS,kD vs (i*s) 0 z (by omega)];simp
  rw[U,O _ (by simp[WL]; omega)];congr 2;have e3:(i+1)*s=(z.toList.take (i*s)++vs).length:=by grind
  grind
theorem Ops.buildSlice {s:Nat} {z:Value} {cs:List Value} (k:Nat) (hT:P.underlying T=some (.slice e)) (hs:∀ w,(sizeOf e).run P w=.ok s w) (hz:∀ w,(zeroValue e).run P w=.ok z w)
  (hk:k=parts.length) (J:Nat.ble (k*s) 16777216=true) (hp:oC E s 0 parts cs) (W:Nat.blt d n.sz=true) (hf:fresh E d=true)
  (Z:∀ b,Ops P ops l n ((d,.slice (some ⟨b,0,none⟩) k k) :: E) (Sym w0 M I0 I (pto b (.cells cs.toArray e) :: m)) Q) :
  Ops P ops (⟨some d,.buildSlice T k parts.toArray,ty,pos,af,none⟩ :: l) n E (Sym w0 M I0 I m) Q:=
 Ops.valx (λv w'=>∃ b,v=.slice (some ⟨b,0,none⟩) k k∧Sym w0 M I0 I (pto b (.cells cs.toArray e) :: m) w') rfl rfl
  (λc w O D=>⟨.slice (some ⟨w.heap.size,0,none⟩) k k,w.alloc (.cells cs.toArray e),by
   have hl:¬k*s > 16777216:=by have:=Nat.le_of_ble_eq_true J; omega
   have h:=λU:Array Value=>AgF (ev':=c.eval) (λx v hx=>O.eval hx) hp ((Array.range (k*s)).map (U[· % U.size]!)) (by simp[hk]);have e1:(Array.map (λ(x:Nat×Operand)=>(x.1,c.eval x.2)) parts.toArray).toList=parts.map λp=>(p.1,c.eval p.2):=by simp
   have e2:(Array.map (λx=>match x with | (i,x)=>(i,c.eval x)) parts.toArray).toList=parts.map λp=>(p.1,c.eval p.2):=e1;simp only[execOp,Instr.buildSlice,Sem.run_bind,run_underlying hT,Result.andThen_ok,hs,hl,if_false,e2];simp only[h];by_cases hks:k*s=0 <;> simp[hks,newRow,hz],_,rfl,D.alloc _⟩) W hf
  (λv c w O ⟨b,V,D⟩=>by subst V; exact Z b c w O D)
theorem Ops.pubB {b k:Nat} {cs:List Value} (Z:Del m (Fw.pto b (.cells cs.toArray e (0,0))) m') (U:RepCs El I cs ys) (hk:k=ys.length) (k':∀ D,I.le D->RepSl El D (some ⟨b,0,none⟩) k ys->Ops P ops l n E (Sym w0 M I0 D m') Q) :
  Ops P ops l n E (Sym w0 M I0 I m) Q:=by
 intro c w W hs;have⟨D,_,h,ha,V,O⟩:=(hs.del Z).publish;refine k' D h ⟨by omega,λi x hx=>?_⟩ c w W O;have⟨J,g1,g2⟩:=U.2.1 i x hx;exact⟨b,0,J,rfl,⟨_,_,_,V _ _ ha,λj v hj=>by rw[aT]; simpa using g2 j v hj⟩,El.mono h g1⟩
theorem Ops.ownB {b k:Nat} {cs:List Value} (O:Del m (Fw.pto b (.cells cs.toArray e (0,0))) m') (D:RepCs El I cs ys) (hk:k=ys.length) (V:Ops P ops l n E (Sym w0 M I0 I (OwnSl El e (some ⟨b,0,none⟩) k ys :: m')) Q) :
  Ops P ops l n E (Sym w0 M I0 I m) Q:=
 Ops.pre (λ_ W=>(W.del O).weaken (B:=OwnSl El e (some ⟨b,0,none⟩) k ys) λ_ J=>.inr ⟨b,_,rfl,J,by omega,by simp[D.1,hk],λi x Z=>by have⟨h,g1,g2⟩:=D.2.1 i x Z;exact⟨h,g1,λj v U=>by simpa using g2 j v U⟩⟩) V
theorem Ops.sliceV {lo hi mx:Option Operand} {vl W J:Option Value} {L H k s:Nat} (hT:P.underlying T=some (.slice e)) (hs:∀ w,(sizeOf e).run P w=.ok s w) (hx:ev E x=some (.slice a k cap)) (hk:k=xs.length)
  (hc:xs.length<=cap) (hl:oev E lo=some vl) (hh:oev E hi=some W) (hm:oev E mx=some J) (a2:vl=none∧L=0∨∃ q i,vl=some (.int q i)∧0<=i∧i.toNat=L)
  (a3:W=none∧H=k∧J=none∨∃ q i,W=some (.int q i)∧0<=i∧i.toNat=H) (a5:J=none∨J=W)
  (h1:L<=H) (h2:H<=xs.length) {cm:Nat} (h:cm=match J with | none=>cap | some _=>H) (hb:Nat.blt d n.sz=true) (hf:fresh E d=true)
  (k':Ops P ops l n ((d,.slice (if cm=L then a else a.map (·.add (L*s))) ((xs.take H).drop L).length (cm - L)) :: E) S Q) :
  Ops P ops (⟨some d,.slice T x lo hi mx,ty,pos,af,none⟩ :: l) n E S Q:=by
 subst hk;have a6:((xs.take H).drop L).length=H - L:=by simp; omega
 rw[a6] at k';refine Ops.val rfl rfl (λ_ w ho _=>?_) hb hf k'
 have a4:(Instr.sliceBounds true xs.length cap vl W J).run P w=.ok (L,H,cm) w:=by
  simp only[Instr.sliceBounds];rcases a5 with rfl | rfl
  . simp only at h; subst h;rcases a3 with⟨rfl,rfl,_⟩ | ⟨q,i,rfl,Z,D⟩ <;> rcases a2 with⟨rfl,rfl⟩ | ⟨q',U,rfl,V,O⟩
    . simp
    . have:U<=(xs.length:Int):=by omega
      simp[Instr.sliceBound,asIntOf,V,this,O]
    . have:i<=(cm:Int):=by omega
      simp[Instr.sliceBound,asIntOf,Z,this,D]
    . have g1:i<=(cm:Int):=by omega
      have g2:U<=(H:Int):=by omega
      simp[Instr.sliceBound,asIntOf,Z,g1,V,g2,D,O]
  . rcases a3 with⟨rfl,rfl,_⟩ | ⟨q,i,rfl,Z,D⟩
    . simp only at h; subst h;rcases a2 with⟨rfl,rfl⟩ | ⟨q',U,rfl,V,O⟩
      . simp
      . have:U<=(xs.length:Int):=by omega
        simp[Instr.sliceBound,asIntOf,V,this,O]
    . simp only at h; subst h;have g0:i<=(cap:Int):=by omega
      rcases a2 with⟨rfl,rfl⟩ | ⟨q',U,rfl,V,O⟩
      . have:i<=(cm:Int):=by omega
        simp[Instr.sliceBound,asIntOf,Z,g0,this,D]
      . have g1:i<=(cm:Int):=by omega
        have g2:U<=(cm:Int):=by omega
        simp[Instr.sliceBound,asIntOf,Z,g0,g1,V,g2,D,O]
 simp only[execOp,ho.eval hx,O6 ho hl,O6 ho hh,O6 ho hm,Instr.sliceAt,Sem.run_bind,run_underlying hT,Result.andThen_ok,Instr.slice,a4,hs,Sem.run_pure]
theorem RepSl.sliceM (h:RepSl El I a cap xs) {L H cm:Nat} (O:L<=H) (J:H<=xs.length) (D:cm=cap∨cm=H) :
  RepSl El I (if cm=L then a else a.map (·.add (L*El.sz))) (cm - L) ((xs.take H).drop L):=by
 have W:=h.1;refine⟨by simp; omega,λi x U=>?_⟩;have V:=(h.slice O J).2 i x U;grind
theorem Ops.ixa0 {k s b:Nat} {q:IntKind} {i:Int} (V:P.underlying T=some (.slice e)) (D:∀ w,(sizeOf e).run P w=.ok s w) (Z:ev E x=some (.slice (some ⟨b,0,none⟩) k cap))
 (W:ev E y=some (.int q i)) (h:0<=i) (hk:i<k) (O:Nat.blt d n.sz=true) (U:fresh E d=true) (J:Ops P ops l n ((d,.pointer (some ⟨b,i.toNat*s,none⟩)) :: E) S Q) :
 Ops P ops (⟨some d,.indexAddr T x y,ty,pos,af,none⟩ :: l) n E S Q:=Ops.ixa (off:=0) V D Z rfl W h hk O U (by rw[aT]; exact J)
theorem Ops.ixArr {s b off o:Nat} {q:IntKind} {i:Nat} (hT:P.underlying T=some (.array len e)) (U:∀ w,(sizeOf e).run P w=.ok s w) (hx:ev E x=some (.pointer (some ⟨b,off,none⟩)))
  (hy:ev E y=some (.int q (i:Int))) (hk:i<len) (D:off+i*s=o) (J:Nat.blt d n.sz=true) (V:fresh E d=true) (O:Ops P ops l n ((d,.pointer (some ⟨b,o,none⟩)) :: E) S Q) :
  Ops P ops (⟨some d,.indexAddr T x y,ty,pos,af,none⟩ :: l) n E S Q:=
 Ops.val rfl rfl (λ_ w h _=>by
  have W:(⟨b,off,none⟩:Addr).add (i*s)=⟨b,o,none⟩:=by rw[<-D]; unfold Addr.add; split <;> simp_all
  have Z:(0:Int)<=(i:Int):=by omega
  simp[execOp,Instr.indexAt,Instr.sureAddr,h.eval hx,h.eval hy,asIntOf,run_underlying hT,Z,hk,U,W]) J V O
theorem Ops.index1 {s:Nat} {q:IntKind} {i:Nat} {cs:List Value} {v:Value} (hT:P.underlying T=some (.array len e)) (V:∀ w,(sizeOf e).run P w=.ok s w) (J:∀ w,(isAgg e).run P w=.ok false w) (hx:ev E x=some (.agg cs.toArray))
  (hy:ev E y=some (.int q (i:Int))) (hk:i<len) (U:cs[i*s]? = some v) (D:Nat.blt d n.sz=true) (W:fresh E d=true) (O:Ops P ops l n ((d,v) :: E) S Q) :
  Ops P ops (⟨some d,.index T x y,ty,pos,af,none⟩ :: l) n E S Q:=
 Ops.val rfl rfl (λ_ w h _=>by
  have Z:(0:Int)<=(i:Int):=by omega
  simp[execOp,Instr.index,h.eval hx,h.eval hy,asIntOf,run_underlying hT,Z,hk,V,part,J,U]) D W O
theorem Ops.make {z:Value} {zv:α} {i:TypeInfo} {q q':IntKind} {c:Int} (B:Nat) (hT:P.underlying T=some (.slice e)) (hi:P.info? e=some i) (a3:i.size=El.sz) (hB:i.bytes=B) (hz:i.zero=some z) (V:El.rep I (cellsOf z) zv)
   (hx:ev E x=some (.int q c)) (hy:ev E y=some (.int q' c)) (h0:0<=c) (h1:c*B<=140737488355328) (b0:Nat.blt 0 B=true) (hb:Nat.blt d n.sz=true) (hf:fresh E d=true)
   (k:∀ b,Ops P ops l n ((d,.slice (some ⟨b,0,none⟩) (List.replicate c.toNat zv).length c.toNat) :: E) (Sym w0 M I0 I (OwnSl El e (some ⟨b,0,none⟩) c.toNat (List.replicate c.toNat zv) :: m)) Q) :
   Ops P ops (⟨some d,.makeSlice T x y,ty,pos,af,none⟩ :: l) n E (Sym w0 M I0 I m) Q:=by
 have b1:0<B:=by simp_all
 have hc:c<=140737488355328:=by have:c*1<=c*(B:Int):=AuF (by omega) h0;omega
 have hw:IntKind.i64.wrap c=c:=by
   have e1:IntKind.i64.wrap c=(let m:=c % 18446744073709551616; if m>=9223372036854775808 then m - 18446744073709551616 else m):=by simp[IntKind.wrap,IntKind.bits,IntKind.signed]
   grind
 have D:z.cells.size=El.sz:=by rw[TK]; simpa using El.len V
 refine Ops.valx (λv w'=>∃ b,v=.slice (some ⟨b,0,none⟩) (List.replicate c.toNat zv).length c.toNat∧Sym w0 M I0 I (OwnSl El e (some ⟨b,0,none⟩) c.toNat (List.replicate c.toNat zv) :: m) w') rfl rfl
   (λZ w W h=>⟨.slice (some ⟨w.heap.size,0,none⟩) (List.replicate c.toNat zv).length c.toNat,w.alloc (.cells ((Array.range (c.toNat*El.sz)).map ((if c.toNat*El.sz=0 then #[] else z.cells)[· % (if c.toNat*El.sz=0 then #[] else z.cells).size]!)) e),?_,_,rfl,?_⟩) hb hf
   (λv Z w W ⟨b,hv,h⟩=>by subst hv; exact k b Z w W h)
 . have a6:∀ w,(sizeOf e).run P w=.ok El.sz w:=λw=>by simp[sizeOf,typeInfo,hi,a3]
   have U:∀ w,(typeInfo e).run P w=.ok i w:=λw=>by simp[typeInfo,hi]
   have a9:∀ w,(zeroValue e).run P w=.ok z w:=λw=>by simp[zeroValue,U,hz]
   have h2:(B:Int)*c<=140737488355328:=by grind
   have g2:¬((c<0∨281474976710656<(B:Int)*c)∨c<0):=by omega
   simp only[execOp,Instr.makeSlice,W.eval hx,W.eval hy,Sem.run_bind,run_underlying hT,Result.andThen_ok,asInt,asIntOf,Sem.run_pure,U,hB,hw];by_cases hcz:c.toNat*El.sz=0 <;> simp[newRow,g2,a6,a9,hcz]
 . refine(h.alloc _).weaken λq hq=>.inr ⟨_,_,rfl,hq,by simp,by simp,λi' x' a7=>?_⟩;have J:=(List.getElem?_eq_some_iff.1 a7).1;have a8:x'=zv:=by grind
   subst a8;refine⟨_,V,λj v _=>?_⟩;have O:j<El.sz:=by rw[<-El.len V]; grind
   rw[AnQ] at J;have a4:(i'+1)*El.sz<=c.toNat*El.sz:=wS _ J;rw[WL,sS] at a4;have a5:¬c.toNat*El.sz=0:=by omega
   simp only[a5,if_false,Array.getElem?_map,Array.getElem?_range];rw[if_pos (by omega)];have a2:(i'*El.sz+j) % El.sz=j:=by rw[yI,Nat.add_mul_mod_self_right]; exact AnZ O
   simp only[Ag3,D,a2,Ad0];have c0:j<z.cells.size:=by rw[D]; exact O
   have e4:z.cells=(cellsOf z).toArray:=TK z;grind
theorem Ops.sliceW {lo hi mx:Option Operand} {V D h:Option Value} {L H k s:Nat} {W:Option Addr} {Z:Nat} (hT:P.underlying T=some (.slice e)) (hs:∀ w,(sizeOf e).run P w=.ok s w) (hx:ev E x=some (.slice a k cap)) (hk:k=xs.length)
  (hc:xs.length<=cap) (hl:oev E lo=some V) (hh:oev E hi=some D) (hm:oev E mx=some h) (a3:V=none∧L=0∨∃ q i,V=some (.int q i)∧0<=i∧i.toNat=L)
  (O:D=none∧H=k∧h=none∨∃ q i,D=some (.int q i)∧0<=i∧i.toNat=H) (a4:h=none∨h=D)
  (h1:L<=H) (h2:H<=xs.length) {cm:Nat} (a2:cm=match h with | none=>cap | some _=>H) (U:(if cm=L then a else a.map (·.add (L*s)))=W) (J:cm - L=Z) (hb:Nat.blt d n.sz=true) (hf:fresh E d=true)
  (k':Ops P ops l n ((d,.slice W ((xs.take H).drop L).length Z) :: E) S Q) :
  Ops P ops (⟨some d,.slice T x lo hi mx,ty,pos,af,none⟩ :: l) n E S Q:=
 Ops.sliceV hT hs hx hk hc hl hh hm a3 O a4 h1 h2 a2 hb hf (by rw[U,J]; exact k')
theorem RepSl.sliceW (h:RepSl El I a cap xs) (L H cm:Nat) (V:L<=H) (U:H<=xs.length) (D:cm=cap∨cm=H) :
 ∃ O J,(if cm=L then a else a.map (·.add (L*El.sz)))=O∧cm - L=J∧RepSl El I O J ((xs.take H).drop L):=⟨_,_,rfl,rfl,h.sliceM V U D⟩
theorem DX {z:Nat} {vs:List Value} (U:fn.results=rs.toArray) (h:ResR P E m rs vs) (D:I0.le I) (hp:Pick m m') (V:φ I (tup vs) m') :
 ∀ c w,Ok ⟨z,[],none⟩ E c->Sym w0 M I0 I m w->IF P fn (SA w0 M I0 φ) .ret c w:=λ_ _ O J=>AoE O h U J λ_ J=>⟨_,I,m',rfl,D,V,J.pick hp⟩
theorem AuM {z:Nat} {O:List Nat} {U:List HA} (W:Del U (NP O) m) {vs:List Value} (Z:fn.results=rs.toArray) (h:ResR P E m rs vs) (D:I0.le I) (hp:Pick m m') (hφ:φ I (tup vs) m') :
 ∀ c w,Ok ⟨z,O,none⟩ E c->Sym w0 M I0 I U w->IF P fn (SA w0 M I0 φ) .ret c w:=λ_ _ V J=>AoD W V h Z J λ_ J=>⟨_,I,m',rfl,D,hφ,J.pick hp⟩
def wV (P:Program) (f:FuncId) (vs:List Value) (I:IH) (φ:IH->Value->List HA->Prop):Prop:=Fun P f vs.toArray I [] φ
theorem Ops.callO {g:FuncId} {args:List Operand} {vs:List Value} {J:Array TypeId} (Z:∀ as w,(callFunc g as).run P w=.ok (.enter g as) w)
  (U:evs E args=some vs) (V:wV P g vs I φ) (W:Nat.blt d n.sz=true) (h:fresh E d=true)
  (k:∀ v D O,I.le D->φ D v O->Ops P ops l n ((d,v) :: E) (Sym w0 M I0 D (O++m)) Q) :
  Ops P ops (⟨some d,.call ⟨.value (.func g),args.toArray,J⟩,ty,pos,af,none⟩ :: l) n E (Sym w0 M I0 I m) Q:=
 Ops.callF (mf:=[]) (mr:=m) Z U V W h k
theorem H3 {z:Nat} {vs:List Value} (U:fn.results=rs.toArray) (h:ResR P E m rs vs) (D:I0.le I) (hp:Pick m m') (V:φ I (tup vs) m') :
 ∀ c w,Ok ⟨z,[],none⟩ E c->Sym w0 M I0 I m w->IF P fn (SA w0 M I0 φ) .normal c w:=λ_ _ O J=>AoE O h U J λ_ J=>⟨_,I,m',rfl,D,V,J.pick hp⟩
theorem Ops.reat {A B:HA} (J:At m A m' B) (h:A=B) (k:Ops P ops l n E (Sym w0 M I0 I m') Q):Ops P ops l n E (Sym w0 M I0 I m) Q:=
 Ops.pre (λ_ D=>D.reAt J λ_ D=>h▸D) k
inductive oD (E:DF) (s:Nat):List Value→List (Nat×Operand)→List Value→Prop
 | n {z:List Value}:oD E s z [] z
 | c {z z' cs vs:List Value} {i:Nat} {x:Operand} {r:List (Nat×Operand)} {v:Value} (hx:ev E x=some v) (hv:cellsOf v=vs) (hl:vs.length=s) (hp:PutC z (i*s) vs z') (k:oD E s z' r cs):oD E s z ((i,x) :: r) cs
theorem AoF {s:Nat} {ev':Operand->Value}:∀ {z:List Value} {r:List (Nat×Operand)} {cs:List Value},oD E s z r cs->(∀ x v,ev E x=some v->ev' x=v) ->
  Instr.fill (λi=>some (i*s,s)) z.toArray (r.map λp=>(p.1,ev' p.2))=some cs.toArray:=by
 intro z r cs h
 induction h with
 | n=>intros; rfl
 | @c z V cs vs i x r v hx U hl hp k W=>
  intro J;have⟨D,_⟩:=hp.eq;have O:(ev' x).cells=vs.toArray:=by rw[J x v hx,TK,U]
  simp only[P9,Instr.fill,O];rw[if_neg (by simp; omega)]
  have Z:vs.toArray.zipIdx.foldl (λcs (p:Value×Nat)=>cs.setIfInBounds (i*s+p.2) p.1) z.toArray=V.toArray:=by rw[<-AiC,AnS];rw[kD vs (i*s) 0 z.toArray (by simp; omega)];simp[D]
  rw[Z];exact W J
theorem Ops.buildArr {s:Nat} {z:List Value} {cs:List Value} (O:∀ w,(zeroValue T).run P w=.ok (.agg z.toArray) w) (W:P.underlying T=some (.array len e))
  (U:∀ w,(sizeOf e).run P w=.ok s w) (D:oD E s z parts cs) (J:Nat.blt d n.sz=true) (V:fresh E d=true) (k:Ops P ops l n ((d,.agg cs.toArray) :: E) S Q) :
  Ops P ops (⟨some d,.build T parts.toArray,ty,pos,af,none⟩ :: l) n E S Q:=
 Ops.val rfl rfl (λa w Z _=>by
  have h:=AoF (ev':=a.eval) D (λx _ hx=>Z.eval hx);simp only[execOp,Instr.build,Sem.run_bind,O,Result.andThen_ok,run_underlying W,Value.cells,U];have e:(Array.map (λ(x:Nat×Operand)=>(x.1,a.eval x.2)) parts.toArray).toList=parts.map λp=>(p.1,a.eval p.2):=by simp
  rw[show(Array.map (λx=>match x with | (i,x)=>(i,a.eval x)) parts.toArray).toList=parts.map λp=>(p.1,a.eval p.2) from e,h];simp) J V k
end
section
variable {w0 w:World} {M:Nat→Prop} {I0 I:IH} {m m':List HA}
variable {P:Program} {n:FrK} {E:DF} {S:World→Prop} {Q:Exit→Act→World→Prop} {ops:Array Oper} {l:List Oper}
variable {d ty:Nat} {pos:String} {af:Array Edge} {T e:TypeId} {x y:Operand}
variable {name:String} {us:List Value}
inductive Outs:List HA→List HA→List HA→Prop
 | n {m:List HA}:Outs m [] m
 | c {m m' r mr:List HA} {A:HA} (h:Del m A m') (k:Outs m' r mr):Outs m (A :: r) mr
theorem Outs.perm {mf mr:List HA} (h:Outs m mf mr):m.Perm (mf++mr):=by
 induction h with
 | n=>exact .refl _
 | c h _ D=>exact h.perm.trans (D.cons _)
def Enters (P:Program) (n:FrK) (E:DF) (S:World->Prop) (x:Callee) (args:List Operand) (g:FuncId) (vs:List Value):Prop:=
 ∀ (D:Option Nat) (h:Array TypeId) (ty:TypeId) (pos:String) (af:Array Edge) (c:Act) (w:World),Ok n E c->S w->(execOp c.eval ⟨D,.call ⟨x,args.toArray,h⟩,ty,pos,af,none⟩).run P w=.ok (.enter g vs.toArray) w
theorem Enters.f {g:FuncId} {args:List Operand} {vs:List Value} (U:∀ as w,(callFunc g as).run P w=.ok (.enter g as) w) (h:evs E args=some vs):Enters P n E S (.value (.func g)) args g vs:=by
 intro O J ty pos af c w D _;have e:args.toArray.map c.eval=vs.toArray:=by simp[VM D h]
 simp only[execOp,resolve,e,Act.eval,Deferred.ofValue,Sem.run_bind,Sem.run_pure,Result.andThen_ok,invoke];simp[U]
theorem Enters.c {g:FuncId} {args:List Operand} {first cap:Array Value} (D:∀ as w,(callFunc g as).run P w=.ok (.enter g as) w) (V:ev E x=some (.func (.func g) first cap)) (U:evs E args=some us) :
  Enters P n E S (.value x) args g (first.toList++us++cap.toList):=by
 intro O J ty pos af c w h _;have e:args.toArray.map c.eval=us.toArray:=by simp[VM h U]
 simp only[execOp,resolve,e,h.eval V,Deferred.ofValue,Sem.run_bind,Sem.run_pure,Result.andThen_ok,invoke,D];simp
theorem Ops.callS {x:Callee} {g:FuncId} {args:List Operand} {vs:List Value} {W:Array TypeId} {mf mr:List HA} {φ:IH->Value->List HA->Prop} (he:Enters P n E (Sym w0 M I0 I m) x args g vs)
  (ho:Outs m mf mr) (hf:Fun P g vs.toArray I mf φ) (hb:Nat.blt d n.sz=true) (Z:fresh E d=true)
  (k:∀ v D O,I.le D->φ D v O->Ops P ops l n ((d,v) :: E) (Sym w0 M I0 D (O++mr)) Q) :
  Ops P ops (⟨some d,.call ⟨x,args.toArray,W⟩,ty,pos,af,none⟩ :: l) n E (Sym w0 M I0 I m) Q:=by
 intro c w J h;refine wpListIn_plain rfl λ_ hK=>?_;refine kC (he _ _ _ _ _ c w J h) (by simp) ?_;simp only[Oper.uponIn];refine⟨λa2=>(by cases a2),oB (hf.use (h.perm ho.perm) λv D O _ U hφ V=>hK _ _ (k v D O U hφ _ _ (J.put hb Z v) V))⟩
theorem Ops.mkFn {D:Fn} {first cap:List Operand} {vs:List Value} (V:evs E first=some vs) (U:evs E cap=some us) (J:Nat.blt d n.sz=true) (O:fresh E d=true)
  (k:Ops P ops l n ((d,.func D vs.toArray us.toArray) :: E) S Q):Ops P ops (⟨some d,.makeFunc D first.toArray cap.toArray,ty,pos,af,none⟩ :: l) n E S Q:=
 Ops.makeFunc (λa h=>by simp[VM h V]) (λa h=>by simp[VM h U]) J O k
def SM (J:IH):List HA->Prop
 | []=>True
 | A :: r=>(∃ k:IH,A.holds J k∧k.le J)∧SM J r
theorem tC {J h:IH} (D:h.le J) (O:I.le J):∀ {mf mr:List HA} {k:IH},O2 (mf++mr) I k->k.le h->SM J mf
 | [],_,_,_,_=>trivial
 | A :: _,mr,_,⟨h1,_,_,hl1,hl2,ha,hs⟩,hk=>⟨⟨h1,A.mono O (IH.le.refl _) ha,(hl1.trans hk).trans D⟩,tC D O (mr:=mr) hs (hl2.trans hk)⟩
theorem Al7 {α:Type} {El:EB α} {T:TypeId} {a:Option Addr} {cap:Nat} {xs:List α} {J:IH} (h:∃ k:IH,(OwnSl El T a cap xs).holds J k∧k.le J):RepSl El J a cap xs:=by
 have⟨k,Z,hk⟩:=h;rcases Z with⟨O,D,U⟩ | ⟨b,c,O,D,U,h4,W⟩
 . subst D; exact .nil _ _ _
 . refine⟨U,λi x hx=>?_⟩;have⟨cs,g1,g2⟩:=W i x hx;exact⟨b,0,cs,O,⟨c,T,(0,0),hk _ _ D,λj v V=>by rw[aT]; exact g2 j v V⟩,g1⟩
theorem Sym.grown (h:Sym w0 M I0 I m w) {w':World} (D:As5 w (λ_=>False) w'):Sym w0 M I0 I m w':=by
 have⟨O,hi,Z,k,hs,hk,hd,hm⟩:=h
 have U:∀ {J:IH},J.le (hp w)->J.le (hp w'):=λhJ b o e=>by have V:=hJ b o e;have:=D.block b (TH V) (λx=>x);show w'.heap[b]? = some o;rw[this]; exact V
 exact⟨⟨D.os.trans O.os,D.tape.trans O.tape,D.output.trans O.output,gZ O.drawn D.drawn,gZ O.size D.size,λb W h2=>(D.block b (AiB W O.size) (λx=>x)).trans (O.block b W h2)⟩,U hi,Z,k,hs,U hk,hd,hm⟩
theorem AoG {g:FuncId} {vs:List Value} {mf mr:List HA} {ψ:IH->Value->Prop} (V:∀ J:IH,I.le J->SM J mf->B6 P g vs J ψ) (U:Outs m mf mr) (O:Sym w0 M I0 I m w)
  {R:Ending->World->Prop} (Z:∀ v J w',ψ J v->Sym w0 M I0 I m w'->R (.returned v) w'):Calls P g vs.toArray w R:=by
 have⟨_,hi,_,k,D,hk,hd,_⟩:=O.perm U.perm;have h:=IH.le_union_left I k;have hJ:(I.union k).le (hp w):=IH.union_le hi hk;refine(V (I.union k) h (tC (IH.le_union_right hd) h D (IH.le.refl _)) w (λ_=>none) hJ trivial (λ_ _ x=>nomatch x) (λ_=>.inr rfl)).mono λ_ w' W=>?_;obtain⟨v,J',_,rfl,_,⟨_,hψ⟩,hs'⟩:=W;exact Z v J' w' hψ (O.grown ⟨hs'.base.os,hs'.base.tape,hs'.base.output,hs'.base.drawn,hs'.base.size,λb h1 _=>hs'.base.block b h1 (by simp)⟩)
theorem Ops.callB {x:Callee} {g:FuncId} {args:List Operand} {vs:List Value} {U:Array TypeId} {mf mr:List HA} {ψ:IH->Value->Prop} (he:Enters P n E (Sym w0 M I0 I m) x args g vs)
  (ho:Outs m mf mr) (hf:∀ J:IH,I.le J->SM J mf->B6 P g vs J ψ) (hb:Nat.blt d n.sz=true) (V:fresh E d=true)
  (k:∀ v J,ψ J v->Ops P ops l n ((d,v) :: E) (Sym w0 M I0 I m) Q) :
  Ops P ops (⟨some d,.call ⟨x,args.toArray,U⟩,ty,pos,af,none⟩ :: l) n E (Sym w0 M I0 I m) Q:=by
 intro c w D W;refine wpListIn_plain rfl λ_ hK=>?_;refine kC (he _ _ _ _ _ c w D W) (by simp) ?_;simp only[Oper.uponIn];refine⟨λh=>(by cases h),oB (AoG hf ho W λv J _ Z O=>hK _ _ (k v J Z _ _ (D.put hb V v) O))⟩
def kI:TypeDesc->Bool
 | .interface _=>false
 | _=>true
theorem Ops.mkIface {u:TypeDesc} {v:Value} (O:P.underlying T=some u) (V:kI u=true) (U:ev E x=some v) (D:Nat.blt d n.sz=true) (J:fresh E d=true)
  (k:Ops P ops l n ((d,.iface T v) :: E) S Q):Ops P ops (⟨some d,.makeInterface T x,ty,pos,af,none⟩ :: l) n E S Q:=
 Ops.val rfl rfl (λ_ _ h _=>by simp only[execOp,h.eval U,Instr.makeInterface,Sem.run_bind,run_underlying O,Result.andThen_ok];cases u <;> simp_all[kI]) D J k
theorem Ops.assertOk {u:TypeDesc} {v:Value} {h:TypeId} (U:P.underlying T=some u) (W:kI u=true) (V:ev E x=some (.iface T v)) (J:Nat.blt d n.sz=true) (O:fresh E d=true)
  (k:Ops P ops l n ((d,.tuple #[v,.bool true]) :: E) S Q):Ops P ops (⟨some d,.typeAssert x h T true,ty,pos,af,none⟩ :: l) n E S Q:=
 Ops.val rfl rfl (λ_ _ D _=>by simp only[execOp,D.eval V,Instr.typeAssert,Sem.run_bind,run_underlying U,Result.andThen_ok];cases u <;> simp_all[kI]) J O k
theorem Enters.i {g:FuncId} {args:List Operand} {h:Operand} {t:TypeId} {v r:Value} (J:∀ as w,(callFunc g as).run P w=.ok (.enter g as) w)
  (U:∀ w,(method (P.types.size+Made.depth) t v name).run P w=.ok (g,r) w) (Z:ev E h=some (.iface t v)) (W:evs E args=some us) :
  Enters P n E S (.invoke h name) args g (r :: us):=by
 intro V O ty pos af c w D _;have e:args.toArray.map c.eval=us.toArray:=by simp[VM D W]
 simp only[execOp,resolve,e,D.eval Z,Sem.run_bind,Sem.run_pure,Result.andThen_ok,invoke];simp[callMethod,U,J]
theorem Enters.iv {g:FuncId} {args:List Operand} {h:Operand} {t:TypeId} {v r:Value} (J:∀ as w,(callFunc g as).run P w=.ok (.enter g as) w)
  (U:∀ w,S w->(method (P.types.size+Made.depth) t v name).run P w=.ok (g,r) w) (W:ev E h=some (.iface t v)) (Z:evs E args=some us) :
  Enters P n E S (.invoke h name) args g (r :: us):=by
 intro a2 O ty pos af c w D V;have e:args.toArray.map c.eval=us.toArray:=by simp[VM D Z]
 simp only[execOp,resolve,e,D.eval W,Sem.run_bind,Sem.run_pure,Result.andThen_ok,invoke];simp[callMethod,U w V,J]
theorem IB {g t N:Nat} {v r:Value} {b off:Nat} {cs:List Value} {O:TypeId} {h:Nat×Nat} (V:∀ w,(method N t v name).run P w=((loadVar T ⟨b,off,none⟩).run P w).andThen λr w=>.ok (g,r) w)
  (D:∀ w,(isAgg T).run P w=.ok false w) (J:Del m (pto b (.cells cs.toArray O h)) m') (U:cs[off]? = some r):∀ w,Sym w0 M I0 I m w->(method N t v name).run P w=.ok (g,r) w:=by
 intro w W;rw[V w];have h1:w.cell? ⟨b,off,none⟩=some r:=by rw[N2 (W.del J).pto]; simpa using U
 have Z:(loadVar T ⟨b,off,none⟩).run P w=.ok r w:=by have:=QY (P:=P) (T:=T) D h1;simpa[Instr.loadAt,Instr.sureAddr] using this
 rw[Z]; rfl
theorem AdB {a:Array TypeId} {t:TypeId} {p:Addr} {s n:ByteArray} (w:World):(Builtin.ssaWrapNilChk_ a t #[.pointer (some p),.string s,.string n]).run P w=.ok (.pointer (some p)) w:=by rfl
theorem E6 {t g e N b o:Nat} {i:TypeInfo} {m:Method} (D:Nat.blt 0 N=true) (hi:P.info? t=some i) (J:i.methods.find? (·.name==name)=some m) (hp:m.path = #[]) (h:m.func=some (g,false)) (O:P.underlying t=some (.pointer e)) (w:World) :
  (method N t (.pointer (some ⟨b,o,none⟩)) name).run P w=((loadVar e ⟨b,o,none⟩).run P w).andThen λr w=>.ok (g,r) w:=by
 cases N with
 | zero=>cases D
 | succ N=>simp[method,typeInfo,hi,J,hp,h,follow,receiverAt,run_underlying O,Place.get,strVal,AdB,asAddr]
theorem YK {t g e N b o:Nat} {i:TypeInfo} {m:Method} (D:Nat.blt 0 N=true) (hi:P.info? t=some i) (J:i.methods.find? (·.name==name)=some m) (hp:m.path = #[]) (h:m.func=some (g,true)) (O:P.underlying t=some (.pointer e)) (w:World) :
  (method N t (.pointer (some ⟨b,o,none⟩)) name).run P w=.ok (g,.pointer (some ⟨b,o,none⟩)) w:=by
 cases N with
 | zero=>cases D
 | succ N=>simp[method,typeInfo,hi,J,hp,h,follow,receiverAt,run_underlying O,Place.get]
end
section
variable {w0 w:World} {M:Nat→Prop} {I0 I:IH} {m m':List HA}
variable {P:Program} {n:FrK} {E:DF} {Q:Exit→Act→World→Prop} {ops:Array Oper} {l:List Oper}
variable {d ty:Nat} {pos:String} {af:Array Edge} {T e:TypeId} {x y z:Operand}
variable {cur:Option (Value×Value)}
section
variable {κ α:Type} [DecidableEq κ]
/-! ### Maps as lists of pairs -/
def BC (k:κ):List (κ×α)->Option α
 | []=>none
 | p :: r=>if k=p.1 then some p.2 else BC k r
def DV (k:κ) (v:α):List (κ×α)->List (κ×α)
 | []=>[(k,v)]
 | p :: r=>if k=p.1 then (k,v) :: r else p :: DV k v r
def FL (k:κ):List (κ×α)->List (κ×α)
 | []=>[]
 | p :: r=>if k=p.1 then r else p :: FL k r
def lkP (l:List (κ×α)) (k:κ) (z:α) (C:α->Prop):Prop:=C ((BC k l).getD z)
def AgG (l:List (κ×α)) (k:κ) (z:α) (C:α->Bool->Prop):Prop:=C ((BC k l).getD z) (BC k l).isSome
inductive ofC:Bool→List Value→Value→Prop
 | a {cs:List Value}:ofC true cs (.agg cs.toArray)
 | s {v:Value}:ofC false [v] v
variable {ke:κ→Value} {El:EB α} {ag:Bool}
def EntsR (ke:κ->Value) (El:EB α) (ag:Bool) (I:IH):List MapEntry->List (κ×α)->Prop
 | [],[]=>True
 | e :: es,p :: l=>e.key=ke p.1∧(∃ cs,El.rep I cs p.2∧ofC ag cs e.val)∧EntsR ke El ag I es l
 | _,_=>False
theorem EntsR.mono {J:IH} (D:I.le J):∀ {es:List MapEntry} {l:List (κ×α)},EntsR ke El ag I es l->EntsR ke El ag J es l
 | [],[],_=>trivial
 | _ :: _,_ :: _,⟨h1,⟨cs,h2,h3⟩,h4⟩=>⟨h1,⟨cs,El.mono D h2,h3⟩,h4.mono D⟩
 | [],_ :: _,h=>h.elim
 | _ :: _,[],h=>h.elim
def Stamped (l:List MapEntry) (clock:Nat):Prop:=(l.map (·.born)).Nodup∧∀ e∈l,e.born<clock
theorem Stamped.push {l:List MapEntry} {clock:Nat} {e:MapEntry} (h:Stamped l clock) (U:e.born=clock):Stamped (l++[e]) (clock+1):=by
 refine⟨?_,λx D=>?_⟩
 . rw[gW,List.nodup_append];refine⟨h.1,by simp,λ_ O _ J=>?_⟩;simp only[P9,AiP,jZ] at J;obtain⟨x,D,rfl⟩:=List.mem_map.1 O;have:=h.2 x D;omega
 . rcases List.mem_append.1 D with D | D
   . have:=h.2 x D; omega
   all_goals grind
theorem ZP {β γ:Type} {f:β->β} {g:β->γ} (h:∀ x,g (f x)=g x):∀ (l:List β) (i:Nat),(l.modify i f).map g=l.map g
 | [],0=>rfl
 | [],_+1=>rfl
 | x :: r,0=>by simp[List.modify_zero_cons,h]
 | x :: r,i+1=>by simp[List.modify_succ_cons,ZP h r i]
theorem Stamped.modify {l:List MapEntry} {clock i:Nat} {f:MapEntry->MapEntry} (h:Stamped l clock) (O:∀ e,(f e).born=e.born):Stamped (l.modify i f) clock:=by have e:=ZP (g:=λe:MapEntry=>e.born) O l i;refine⟨by rw[e]; exact h.1,λx V=>?_⟩;have J:x.born∈(l.modify i f).map (·.born):=AcY V;rw[e] at J;have⟨y,U,D⟩:=List.mem_map.1 J;rw[<-D]; exact h.2 y U
theorem Stamped.sub {l m:List MapEntry} {clock:Nat} (h:Stamped l clock) (D:m.Sublist l):Stamped m clock:=⟨(D.map _).nodup h.1,λx J=>h.2 x (D.mem J)⟩
def OwnMap (ke:κ->Value) (El:EB α) (ag:Bool) (b:Nat) (kvs:List (κ×α)):HA where
 holds I h:=∃ es clock,h b=some (.map es clock)∧EntsR ke El ag I es.toList kvs∧Stamped es.toList clock
 mono:=λhI hh ⟨es,clock,h1,h2,h3⟩=>⟨es,clock,hh _ _ h1,h2.mono hI,h3⟩
def TL (k:κ):List MapEntry->List κ->Nat->Option (Nat×Value)
 | e :: es,x :: ks,j=>if k=x then some (j,e.val) else TL k es ks (j+1)
 | _,_,_=>none
structure fV (P:Program) (kt:TypeId) (ke:κ→Value):Prop where
 chk:∀ e k w,(Instr.checkKey e 10000 kt (ke k)).run P w=.ok () w
 find:∀ (k:κ) (es:List MapEntry) (ks:List κ) (w:World),es.map (·.key)=ks.map ke→(Instr.findKey kt (ke k) es).run P w=.ok (TL k es ks 0) w
 same:∀ k,Instr.sameBits 10000 (ke k) (ke k)=true
theorem pY {q:IntKind} (k:Int):∀ (es:List MapEntry) (D:List Int) (j:Nat),es.map (·.key)=D.map (Value.int q)->Instr.findNow (.int q) (.int q k) es j=some (TL k es D j)
 | [],[],_,_=>rfl
 | e :: es,x :: D,j,h=>by
  simp only[P9,Ad1] at h;simp only[Instr.findNow,h.1,Instr.sameNow,if_true];by_cases hk:k=x
  . subst hk; simp[TL]
  . have:(k==x)=false:=by simpa using hk
    simp only[this,TL,hk,if_false];exact pY k es D (j+1) h.2
 | [],_ :: _,_,h=>by simp at h
 | _ :: _,[],_,h=>by simp at h
theorem MH {q:IntKind} {kt:TypeId} (hd:P.underlying kt=some (.int q)):fV P kt (Value.int q) where
 chk e k w:=by show(Instr.checkKey e (9999+1) kt _).run P w=_;unfold Instr.checkKey;simp only[Sem.run_bind,run_underlying hd,Result.andThen_ok];rfl
 find k es ks w h:=by simp[Instr.findKey,run_underlying hd,pY k es ks 0 h]
 same k:=by simp[Instr.sameBits]
theorem EntsR.keys:∀ {es:List MapEntry} {l:List (κ×α)},EntsR ke El ag I es l->es.map (·.key)=(l.map (·.1)).map ke
 | [],[],_=>rfl
 | _ :: _,_ :: _,⟨J,_,D⟩=>by simp only[P9,J]; rw[D.keys]
 | [],_ :: _,h=>h.elim
 | _ :: _,[],h=>h.elim
theorem EntsR.miss (k:κ):∀ {es:List MapEntry} {l:List (κ×α)} {j:Nat},EntsR ke El ag I es l->TL k es (l.map (·.1)) j=none->BC k l=none∧(∀ v,DV k v l=l++[(k,v)])∧FL k l=l
 | [],[],_,_,_=>⟨rfl,λ_=>rfl,rfl⟩
 | _ :: _,p :: _,j,⟨_,_,h⟩,hf=>by
  simp only[P9,TL] at hf;split at hf
  . cases hf
  . rename_i hk;have⟨_,_,_⟩:=EntsR.miss k h hf;grind[BC,DV,FL]
 | [],_ :: _,_,h,_=>h.elim
 | _ :: _,[],_,h,_=>h.elim
theorem EntsR.hit (k:κ):∀ {es:List MapEntry} {l:List (κ×α)} {j i:Nat} {v:Value},EntsR ke El ag I es l->TL k es (l.map (·.1)) j=some (i,v) ->
  ∃ O,i=j+O∧(∃ e,es[O]? = some e∧e.key=ke k∧e.val=v)∧(∃ x cs,BC k l=some x∧El.rep I cs x∧ofC ag cs v) ∧
    (∀ (f:MapEntry->MapEntry) (x:α),(∀ e,e.key=ke k->(f e).key=ke k)->(∀ e,∃ cs,El.rep I cs x∧ofC ag cs (f e).val)->EntsR ke El ag I (es.modify O f) (DV k x l))∧EntsR ke El ag I (es.eraseIdx O) (FL k l)
 | [],[],_,_,_,_,hf=>by cases hf
 | e :: es,p :: l,j,i,v,⟨h1,h2,h⟩,hf=>by
  simp only[P9,TL] at hf;split at hf
  . rename_i hk;cases hf;refine⟨0,rfl,⟨e,rfl,by rw[h1,hk],rfl⟩,?_,?_,?_⟩
    . have⟨cs,V,U⟩:=h2;exact⟨p.2,cs,by simp[BC,hk],V,U⟩
    . intro f x J D;simp only[List.modify_zero_cons,DV,hk,if_true];exact⟨by rw[J e (by rw[h1,hk]),hk],D e,h⟩
    . simp only[List.eraseIdx_cons_zero,FL,hk,if_true]; exact h
  . rename_i hk;have⟨O,_,V,U,g3,g4⟩:=EntsR.hit k h hf;refine⟨O+1,by omega,by simpa using V,?_,?_,?_⟩
    . have⟨x,cs,e1,W,Z⟩:=U;exact⟨x,cs,by simp[BC,hk,e1],W,Z⟩
    . intro f x J D;simp only[List.modify_succ_cons,DV,hk,if_false];exact⟨h1,h2,g3 f x J D⟩
    . simp only[ArZ,FL,hk,if_false]; exact⟨h1,h2,g4⟩
 | [],_ :: _,_,_,_,h,_=>h.elim
 | _ :: _,[],_,_,_,h,_=>h.elim
theorem EntsR.push {k:κ} {x:α} {e:MapEntry} (hk:e.key=ke k) (D:∃ cs,El.rep I cs x∧ofC ag cs e.val):∀ {es:List MapEntry} {l:List (κ×α)},EntsR ke El ag I es l->EntsR ke El ag I (es++[e]) (l++[(k,x)])
 | [],[],_=>⟨hk,D,trivial⟩
 | _ :: _,_ :: _,⟨O,J,h⟩=>⟨O,J,EntsR.push hk D h⟩
 | [],_ :: _,h=>h.elim
 | _ :: _,[],h=>h.elim
theorem EntsR.length:∀ {es:List MapEntry} {l:List (κ×α)},EntsR ke El ag I es l->es.length=l.length
 | [],[],_=>rfl
 | _ :: _,_ :: _,⟨_,_,h⟩=>by simp[h.length]
 | [],_ :: _,h=>h.elim
 | _ :: _,[],h=>h.elim
variable {b:Nat} {kvs:List (κ×α)} {kt et:TypeId} {k:κ}
theorem OwnMap.opn {r:List HA} (h:Sym w0 M I0 I (OwnMap ke El ag b kvs :: r) w):∃ es clock,(EntsR ke El ag I es.toList kvs∧Stamped es.toList clock)∧Sym w0 M I0 I (pto b (.map es clock) :: r) w:=by have⟨O,hi,J,q,⟨h1,h2,hd',hl1,hl2,⟨es,clock,V,U,D⟩,hs'⟩,hk,hdj,hm⟩:=h;exact⟨es,clock,⟨U,D⟩,O,hi,J,q,⟨h1,h2,hd',hl1,hl2,V,hs'⟩,hk,hdj,hm⟩
theorem OwnMap.cls {r:List HA} {es:Array MapEntry} {clock:Nat} (D:EntsR ke El ag I es.toList kvs∧Stamped es.toList clock) (h:Sym w0 M I0 I (pto b (.map es clock) :: r) w):Sym w0 M I0 I (OwnMap ke El ag b kvs :: r) w:=
 h.weaken λ_ hk=>⟨es,clock,hk,D.1,D.2⟩
theorem OwnMap.set {r:List HA} {es es':Array MapEntry} {clock clock':Nat} (D:EntsR ke El ag I es'.toList kvs∧Stamped es'.toList clock') (h:Sym w0 M I0 I (pto b (.map es clock) :: r) w) :
  ∃ w',(setObj b (.map es' clock')).run P w=.ok () w'∧Sym w0 M I0 I (OwnMap ke El ag b kvs :: r) w':=by
 have hp:=h.pto;refine⟨_,MapKept.run_setObj_map _ hp,OwnMap.cls (clock:=clock') D (h.upd rfl rfl rfl rfl (by simp) (λ_ _=>?_) ?_)⟩
 all_goals grind
theorem Ops.mkMap (ke:κ->Value) (El:EB α) (ag:Bool) (O:Nat.blt d n.sz=true) (U:fresh E d=true)
  (V:∀ b,Ops P ops l n ((d,.map (some b)) :: E) (Sym w0 M I0 I (OwnMap ke El ag b [] :: m)) Q):Ops P ops (⟨some d,.makeMap T none,ty,pos,af,none⟩ :: l) n E (Sym w0 M I0 I m) Q:=
 Ops.valx (λv w'=>∃ b,v=.map (some b)∧Sym w0 M I0 I (OwnMap ke El ag b [] :: m) w') rfl rfl
  (λc w D h=>⟨.map (some w.heap.size),w.alloc (.map #[] 0),by simp[execOp,Instr.makeMap],_,rfl,OwnMap.cls ⟨by trivial,by simp[Stamped]⟩ (h.alloc _)⟩) O U
  (λv c w D ⟨b,J,h⟩=>by subst J; exact V b c w D h)
theorem aV {r:List HA} (K:fV P kt ke) (Z:P.underlying T=some (.map kt et)) {zv:Value} {z:α} (hz:∀ w,(zeroValue et).run P w=.ok zv w) (U:∃ cs,El.rep I cs z∧ofC ag cs zv)
  (a2:Sym w0 M I0 I (OwnMap ke El ag b kvs :: r) w) (O:Bool) :
  ∃ v cs,El.rep I cs ((BC k kvs).getD z)∧ofC ag cs v∧(Instr.lookup T (.map (some b)) (ke k) O).run P w=.ok (if O then .tuple #[v,.bool (BC k kvs).isSome] else v) w:=by
 have⟨es,_,⟨hE,_⟩,hs⟩:=OwnMap.opn a2;have hp:=hs.pto;have D:=K.find k es.toList (kvs.map (·.1)) w hE.keys
 cases h:TL k es.toList (kvs.map (·.1)) 0 with
 | none=>
  have⟨J,_,_⟩:=hE.miss k h;have⟨cs,W,V⟩:=U;refine⟨zv,cs,by rw[J]; exact W,V,?_⟩;rw[J];simp only[Instr.lookup,Sem.run_bind,run_underlying Z,Result.andThen_ok,MapKept.run_getObj_map hp,Sem.run_pure,K.chk,D,h,hz]
  cases O <;> rfl
 | some iv=>
  have⟨_,v⟩:=iv;have⟨_,_,_,⟨_,cs,J,W,V⟩,_,_⟩:=hE.hit k h;refine⟨v,cs,by rw[J]; exact W,V,?_⟩;rw[J];simp only[Instr.lookup,Sem.run_bind,run_underlying Z,Result.andThen_ok,MapKept.run_getObj_map hp,Sem.run_pure,K.chk,D,h];cases O <;> rfl
theorem Ops.lookM {zv:Value} {z:α} {C:α->Prop} (K:fV P kt ke) (hT:P.underlying T=some (.map kt et)) (hz:∀ w,(zeroValue et).run P w=.ok zv w) (J:∃ cs,El.rep I cs z∧ofC ag cs zv)
  (Z:Del m (OwnMap ke El ag b kvs) m') (hx:ev E x=some (.map (some b))) (hy:ev E y=some (ke k)) (V:lkP kvs k z C) (W:Nat.blt d n.sz=true) (hf:fresh E d=true)
  (k':∀ v r cs,C r->El.rep I cs r->ofC ag cs v->Ops P ops l n ((d,v) :: E) (Sym w0 M I0 I m) Q):Ops P ops (⟨some d,.lookup T x y false,ty,pos,af,none⟩ :: l) n E (Sym w0 M I0 I m) Q:=
 Ops.valx (λv w'=>(∃ cs,El.rep I cs ((BC k kvs).getD z)∧ofC ag cs v)∧Sym w0 M I0 I m w') rfl rfl
  (λc w h D=>by have⟨v,cs,U,O,g3⟩:=aV (k:=k) K hT hz J (D.del Z) false;refine⟨v,w,?_,⟨cs,U,O⟩,D⟩;simp[execOp,h.eval hx,h.eval hy,g3]) W hf
  (λv c w h ⟨⟨cs,U,O⟩,D⟩=>k' v _ cs V U O c w h D)
theorem Ops.lookM2 {zv:Value} {z:α} {C:α->Bool->Prop} (K:fV P kt ke) (hT:P.underlying T=some (.map kt et)) (hz:∀ w,(zeroValue et).run P w=.ok zv w) (J:∃ cs,El.rep I cs z∧ofC ag cs zv)
  (Z:Del m (OwnMap ke El ag b kvs) m') (hx:ev E x=some (.map (some b))) (hy:ev E y=some (ke k)) (V:AgG kvs k z C) (W:Nat.blt d n.sz=true) (hf:fresh E d=true)
  (k':∀ v r t cs,C r t->El.rep I cs r->ofC ag cs v->Ops P ops l n ((d,.tuple #[v,.bool t]) :: E) (Sym w0 M I0 I m) Q):Ops P ops (⟨some d,.lookup T x y true,ty,pos,af,none⟩ :: l) n E (Sym w0 M I0 I m) Q:=
 Ops.valx (λu w'=>(∃ v cs,u=.tuple #[v,.bool (BC k kvs).isSome]∧El.rep I cs ((BC k kvs).getD z)∧ofC ag cs v)∧Sym w0 M I0 I m w') rfl rfl
  (λc w h D=>by have⟨v,cs,U,O,g3⟩:=aV (k:=k) K hT hz J (D.del Z) true;refine⟨_,w,?_,⟨v,cs,rfl,U,O⟩,D⟩;simp[execOp,h.eval hx,h.eval hy,g3]) W hf
  (λu c w h ⟨⟨v,cs,hu,U,O⟩,D⟩=>by subst hu; exact k' v _ _ cs V U O c w h D)
theorem Ops.updM {v:α} {u:Value} (K:fV P kt ke) (hT:P.underlying T=some (.map kt et)) (hA:At m (OwnMap ke El ag b kvs) m' (OwnMap ke El ag b (DV k v kvs))) (hx:ev E x=some (.map (some b))) (hy:ev E y=some (ke k)) (hv:ev E z=some u)
    (hr:∃ cs,El.rep I cs v∧ofC ag cs u) (k':Ops P ops l n E (Sym w0 M I0 I m') Q):Ops P ops (⟨none,.mapUpdate T x y z,ty,pos,af,none⟩ :: l) n E (Sym w0 M I0 I m) Q:=
  Ops.act rfl rfl (fun c w ho hs=>by
    obtain ⟨r,h2,h3⟩:=hA.del
    obtain ⟨es,clock,⟨hE,hSt⟩,hs1⟩:=OwnMap.opn (hs.del h2)
    have hp:=hs1.pto
    have hfd:=K.find k es.toList (kvs.map (·.1)) w hE.keys
    cases hf:TL k es.toList (kvs.map (·.1)) 0 with
    | none=>
      obtain ⟨_,g2,_⟩:=hE.miss k hf
      obtain ⟨w',hr',hs'⟩:=OwnMap.set (P:=P) (es':=es.push { key:=ke k,val:=u,born:=clock }) (clock':=clock+1) (kvs:=DV k v kvs) (by rw [g2,Array.toList_push]; exact ⟨EntsR.push (ke:=ke) (e:={ key:=ke k,val:=u,born:=clock }) rfl hr hE,hSt.push rfl⟩) hs1
      refine ⟨w',?_,hs'.undel h3⟩
      simp only [execOp,ho.eval hx,ho.eval hy,ho.eval hv,Instr.mapUpdate,Sem.run_bind,run_underlying hT,Result.andThen_ok,MapKept.run_getObj_map hp,K.chk,hfd,hf,hr',Sem.run_pure]
    | some iv=>
      obtain ⟨i,u'⟩:=iv
      obtain ⟨i',hi,⟨e0,q1,q2,q3⟩,_,g3,_⟩:=hE.hit k hf
      have hi':i'=i:=by omega
      subst hi'
      have hkey:((es[i']?.map (·.key)).getD (ke k))=ke k:=by
        grind
      obtain ⟨w',hr',hs'⟩:=OwnMap.set (P:=P) (es':=es.modify i' fun e=>{ e with key:=ke k,val:=u }) (clock':=clock) (kvs:=DV k v kvs) (by rw [Array.toList_modify]; exact ⟨g3 _ _ (fun _ _=>rfl) (fun _=>hr),hSt.modify fun _=>rfl⟩) hs1
      refine ⟨w',?_,hs'.undel h3⟩
      simp only [execOp,ho.eval hx,ho.eval hy,ho.eval hv,Instr.mapUpdate,Sem.run_bind,run_underlying hT,Result.andThen_ok,MapKept.run_getObj_map hp,K.chk,hfd,hf,hkey,Instr.keyThatStays,K.same,if_true,hr',Sem.run_pure]) k'
theorem Ops.delM {V:Array TypeId} (K:fV P kt ke) (hT:P.underlying T=some (.map kt et)) (a2:V[0]? = some T) (hA:At m (OwnMap ke El ag b kvs) m' (OwnMap ke El ag b (FL k kvs))) (hx:ev E x=some (.map (some b))) (hy:ev E y=some (ke k))
  (k':Ops P ops l n E (Sym w0 M I0 I m') Q):Ops P ops (⟨none,.call ⟨.builtin .delete,#[x,y],V⟩,ty,pos,af,none⟩ :: l) n E (Sym w0 M I0 I m) Q:=
 Ops.val0 rfl rfl (fun c w ho hs=>by
  obtain ⟨_,h2,h3⟩:=hA.del
  obtain ⟨es,clock,⟨Z,U⟩,hs1⟩:=OwnMap.opn (hs.del h2)
  have hp:=hs1.pto
  have O:=K.find k es.toList (kvs.map (·.1)) w Z.keys
  have e0:(#[x,y].map c.eval) = #[.map (some b),ke k]:=by simp [ho.eval hx,ho.eval hy]
  cases h:TL k es.toList (kvs.map (·.1)) 0 with
  | none=>
   obtain ⟨_,_,g3⟩:=Z.miss k h
   obtain ⟨w',J,D⟩:=OwnMap.set (P:=P) (es':=es) (clock':=clock) (kvs:=FL k kvs) (by rw [g3]; exact ⟨Z,U⟩) hs1
   refine ⟨.tuple #[],w',?_,D.undel h3⟩
   simp [execOp,resolve,e0,invoke,builtin,Builtin.delete_,a2,run_underlying hT,MapKept.run_getObj_map hp,K.chk,O,h,J]
  | some iv=>
   obtain ⟨i,_⟩:=iv
   obtain ⟨W,_,_,_,_,g4⟩:=Z.hit k h
   have a3:W=i:=by omega
   subst a3
   obtain ⟨w',J,D⟩:=OwnMap.set (P:=P) (es':=es.eraseIdxIfInBounds W) (clock':=clock) (kvs:=FL k kvs) (by
    have e1:(es.eraseIdxIfInBounds W).toList=es.toList.eraseIdx W:=by
     unfold Array.eraseIdxIfInBounds
     split
     · simp
     · rw [List.eraseIdx_of_length_le (by simp; omega)]
    rw [e1]; exact ⟨g4,U.sub (List.eraseIdx_sublist _ _)⟩) hs1
   refine ⟨.tuple #[],w',?_,D.undel h3⟩
   simp [execOp,resolve,e0,invoke,builtin,Builtin.delete_,a2,run_underlying hT,MapKept.run_getObj_map hp,K.chk,O,h,J]) k'
theorem AdC {D:TypeDesc} (O:∀ k x,Instr.sameNow D (ke k) (ke x)=none) (k:κ):∀ (es:List MapEntry) (J:List κ),es.map (·.key)=J.map ke->Instr.findNow D (ke k) es 0=if es=[] then some none else none
 | [],[],_=>by simp[Instr.findNow]
 | e :: es,x :: J,h=>by
  simp only[P9,Ad1] at h;simp[Instr.findNow,h.1,O]
 | [],_ :: _,h=>by simp at h
 | _ :: _,[],h=>by simp at h
theorem fW (D:∀ (k x:κ) (w:World),(Op.equal kt (ke k) (ke x)).run P w=.ok (decide (k=x)) w) (k:κ):∀ (es:List MapEntry) (J:List κ) (j:Nat) (w:World),es.map (·.key)=J.map ke->(Instr.findAsking kt (ke k) es j).run P w=.ok (TL k es J j) w
 | [],[],_,_,_=>rfl
 | e :: es,x :: J,j,w,h=>by
  simp only[P9,Ad1] at h;simp only[Instr.findAsking,Sem.run_bind,h.1,D,Result.andThen_ok];by_cases hk:k=x
  . simp[hk,TL]
  . simp only[hk,decide_false,AaJ,if_false,TL];exact fW D k es J (j+1) w h.2
 | [],_ :: _,_,_,h=>by simp at h
 | _ :: _,[],_,_,h=>by simp at h
theorem Av7 {kd:TypeDesc} (hd:P.underlying kt=some kd) (hn:∀ k x,Instr.sameNow kd (ke k) (ke x)=none) (heq:∀ (k x:κ) (w:World),(Op.equal kt (ke k) (ke x)).run P w=.ok (decide (k=x)) w)
  (hchk:∀ e k w,(Instr.checkKey e 10000 kt (ke k)).run P w=.ok () w) (hsame:∀ k,Instr.sameBits 10000 (ke k) (ke k)=true):fV P kt ke where
 chk:=hchk
 find k es ks w h:=by
  have h1:=AdC hn k es ks h;simp only[Instr.findKey,Sem.run_bind,run_underlying hd,Result.andThen_ok,h1];by_cases h0:es=[]
  . subst h0
    cases ks with
    | nil=>rfl
    | cons=>simp at h
  all_goals grind[fW]
 same:=hsame
def K2 (x:Int×Int):Value:=.agg #[.int .i64 x.1,.int .i64 x.2]
theorem As7 (d:Nat) {t e:TypeId} {i:TypeInfo} (U:P.underlying t=some (.array 2 e)) (hi:P.info? e=some i) (W:P.underlying e=some (.int .i64)) (V:P.cellsOf e=1) (h:∀ w,(isAgg e).run P w=.ok false w) (k x:Int×Int) (w:World) :
   (Op.equalIn (d+2) t (K2 k) (K2 x)).run P w=.ok (decide (k=x)) w:=by
 have⟨J,Z⟩:=k;have⟨O,x2⟩:=x;unfold K2;rw[run_equalIn_array w (d+1) _ _ U hi];have D:=λa b=>run_equalIn_int (P:=P) w d e .i64 .i64 a b W;simp only[V,show List.range 2=[0,1] from rfl,Op.eqItems,Sem.run_bind,part,h,Result.andThen_ok];simp[D];by_cases e1:J=O
 . by_cases e2:Z=x2 <;> simp[e1,e2,h,D]
 . simp[e1,h]
theorem AiX {kt e:TypeId} {i:TypeInfo} (h:P.underlying kt=some (.array 2 e)) (hi:P.info? e=some i) (J:P.underlying e=some (.int .i64)) (V:P.cellsOf e=1) (O:∀ w,(isAgg e).run P w=.ok false w) (W:∀ w,(sizeOf e).run P w=.ok 1 w):fV P kt K2:=by
 refine Av7 h (λ_ _=>rfl) (λk x w=>As7 9998 h hi J V O k x w) (λD k w=>?_) (λk=>?_)
 . show(Instr.checkKey D (9998+1+1) kt _).run P w=_;unfold Instr.checkKey K2;simp only[Sem.run_bind,run_underlying h,Result.andThen_ok]
   have U:∀ (a:Int) (w:World),(Instr.checkKey D (9998+1) e (.int .i64 a)).run P w=.ok () w:=λa w=>by unfold Instr.checkKey;simp only[Sem.run_bind,run_underlying J,Result.andThen_ok];rfl
   simp[Std.Legacy.Range.forIn_eq_forIn_range',Std.Legacy.Range.size,List.range',W,part,O,U]
 . simp[K2,Instr.sameBits]
def yQ (rest:List (κ×α)) (A:Prop) (B:κ×α->List (κ×α)->Prop):Prop:=(rest=[]->A)∧∀ (i:Nat) (p:κ×α),rest[i]? = some p->B p (rest.eraseIdx i)
def AoH (cur:Option (Value×Value)) (es:List MapEntry) (clock h:Nat) (seen:Array Nat):Prop:=match cur with
 | none=>True
 | some kv=>clock=h∧∃ e∈es,seen.back? = some e.born∧e.key=kv.1∧e.val=kv.2
def OwnIt (ke:κ->Value) (El:EB α) (ag:Bool) (b r:Nat) (kvs rest:List (κ×α)) (cur:Option (Value×Value)):HA where
 holds I h:=∃ es clock since seen c0,h b=some (.map es clock)∧EntsR ke El ag I es.toList kvs∧Stamped es.toList clock∧h r=some (.mapIter (some b) since seen c0)∧(∀ e∈es.toList,e.born<since)∧since<=c0∧since<=clock∧EntsR ke El ag I (leftOf es seen).toList rest∧AoH cur es.toList clock c0 seen
 mono:=λhI hh ⟨es,clock,since,seen,c0,h1,h2,h3,h4,h5,h6,h7,h8,h9⟩=>⟨es,clock,since,seen,c0,hh _ _ h1,h2.mono hI,h3,hh _ _ h4,h5,h6,h7,h8.mono hI,h9⟩
theorem EntsR.get:∀ {es:List MapEntry} {l:List (κ×α)} {i:Nat} {e:MapEntry},EntsR ke El ag I es l→es[i]? = some e→∃ p,l[i]? = some p∧e.key=ke p.1∧∃ cs,El.rep I cs p.2∧ofC ag cs e.val
 | _ :: _,p :: _,0,_,⟨h1,h2,_⟩,he=>by cases he; exact ⟨p,rfl,h1,h2⟩
 | _ :: _,_ :: _,i+1,_,⟨_,_,h⟩,he=>by
  obtain ⟨p,_⟩:=EntsR.get (i:=i) h (by simpa using he)
  grind
 | [],[],_,_,_,he=>by simp at he
 | [],_ :: _,_,_,h,_=>h.elim
 | _ :: _,[],_,_,h,_=>h.elim
theorem EntsR.erase:∀ {es:List MapEntry} {l:List (κ×α)} (i:Nat),EntsR ke El ag I es l->EntsR ke El ag I (es.eraseIdx i) (l.eraseIdx i)
 | [],[],_,_=>trivial
 | _ :: _,_ :: _,0,⟨_,_,h⟩=>h
 | _ :: _,_ :: _,i+1,⟨J,D,h⟩=>⟨J,D,EntsR.erase i h⟩
 | [],_ :: _,_,h=>h.elim
 | _ :: _,[],_,h=>h.elim
theorem kJ {e:MapEntry}:∀ {l:List MapEntry} {i:Nat},(l.map (·.born)).Nodup->l[i]? = some e->l.filter (λx=>!(x.born==e.born))=l.eraseIdx i
 | [],_,_,h=>by simp at h
 | x :: r,0,hn,h=>by
  cases h;simp only[P9,sQ] at hn;simp only[AnL,beq_self_eq_true,Bool.not_true,AaJ,if_false,List.eraseIdx_cons_zero];refine List.filter_eq_self.2 λy V=>?_;have:y.born≠e.born:=λD=>hn.1 (D▸AcY V);simpa using this
 | x :: r,i+1,hn,h=>by
  simp only[P9,sQ] at hn;have O:r[i]? = some e:=by simpa using h
  have J:x.born≠e.born:=λD=>hn.1 (D▸AcY (As3 O));have U:(x.born==e.born)=false:=by simpa using J
  simp only[AnL,U,Bool.not_false,if_true,ArZ];rw[kJ hn.2 O]
theorem AaS {es:Array MapEntry} {seen:Array Nat} {e:MapEntry} {i:Nat} {clock:Nat} (J:Stamped es.toList clock) (hi:(leftOf es seen).toList[i]? = some e):(leftOf es (seen.push e.born)).toList=(leftOf es seen).toList.eraseIdx i:=by
 have h:(leftOf es seen).toList.Sublist es.toList:=by unfold leftOf; simp_all
 have D:((leftOf es seen).toList.map (·.born)).Nodup:=(h.map _).nodup J.1;rw[<-kJ D hi];unfold leftOf;rw[Array.toList_filter,Array.toList_filter,List.filter_filter];grind
theorem Sym.join2 {A B C:HA} {l:List HA} (h:Sym w0 M I0 I (A :: B :: l) w) (W:∀ D J,D.disj J->A.holds I D->B.holds I J->C.holds I (D.union J)):Sym w0 M I0 I (C :: l) w:=by
 have⟨hb,hi,Z,k,⟨D,_,hd,hl1,hl2,ha,J,h3,hd',hl3,hl4,hB,hs⟩,hk,hdj,hm⟩:=h;have O:D.disj J:=hd.mono (IH.le.refl _) hl3;have V:D.disj h3:=hd.mono (IH.le.refl _) hl4;refine⟨hb,hi,Z,k,⟨D.union J,h3,?_,IH.union_le hl1 (hl3.trans hl2),hl4.trans hl2,W D J O ha hB,hs⟩,hk,hdj,hm⟩;intro b;rcases V b with h | h
 . rcases hd' b with U | U
   . left; simp[IH.union,h,U]
   . exact .inr U
 . exact .inr h
theorem Sym.split2 {A B C:HA} {l:List HA} (h:Sym w0 M I0 I (C :: l) w) (hc:∀ q,C.holds I q->∃ J D,J.disj D∧J.le q∧D.le q∧A.holds I J∧B.holds I D):Sym w0 M I0 I (A :: B :: l) w:=by
 have⟨hb,hi,Z,k,⟨q,k1,hd,hl1,hl2,ha,hs⟩,hk,hdj,hm⟩:=h;have⟨J,D,V,W,U,hA,hB⟩:=hc q ha;refine⟨hb,hi,Z,k,⟨J,D.union k1,?_,W.trans hl1,IH.union_le (U.trans hl1) hl2,hA,D,k1,hd.mono U (IH.le.refl _),IH.le_union_left _ _,IH.le_union_right (hd.mono U (IH.le.refl _)),hB,hs⟩,hk,hdj,hm⟩;intro b;rcases V b with h | h
 . exact .inl h
 . rcases(hd.mono W (IH.le.refl k1)) b with O | O
   . exact .inl O
   . right; simp[IH.union,h,O]
variable {r:Nat} {rest:List (κ×α)}
def pto2 (b:Nat) (o:Obj) (r:Nat) (o':Obj):HA where
 holds _ h:=h b=some o∧h r=some o'
 mono:=λ_ hh h=>⟨hh _ _ h.1,hh _ _ h.2⟩
theorem Sym.pto2 {b r:Nat} {o o':Obj} {l:List HA} (J:r≠b) (h:Sym w0 M I0 I (Fw.pto2 b o r o' :: l) w):Sym w0 M I0 I (Fw.pto r o' :: Fw.pto b o :: l) w:=by
 refine h.split2 λ_ O=>⟨GN r o',GN b o,λc=>?_,λc p e=>?_,λc p e=>?_,by simp[Fw.pto,GN],by simp[Fw.pto,GN]⟩
 . by_cases e:c=r
   . right; subst e; simp[GN,J]
   . left; simp[GN,e]
 . simp only[GN] at e; split at e
   . rename_i D; subst D; cases e; exact O.2
   . cases e
 . simp only[GN] at e; split at e
   . rename_i D; subst D; cases e; exact O.1
   . cases e
theorem OwnIt.opn {cur:Option (Value×Value)} {l:List HA} (h:Sym w0 M I0 I (OwnIt ke El ag b r kvs rest cur :: l) w):∃ es clock D seen J,EntsR ke El ag I es.toList kvs∧Stamped es.toList clock∧(∀ e∈es.toList,e.born<D)∧D<=J∧D<=clock∧EntsR ke El ag I (leftOf es seen).toList rest∧AoH cur es.toList clock J seen ∧
  Sym w0 M I0 I (pto r (.mapIter (some b) D seen J) :: pto b (.map es clock) :: l) w:=by
 have⟨hb,hi,hn,q,⟨q1,q2,hd',hl1,hl2,⟨es,clock,D,seen,J,V,g2,g3,U,g5,g6,W,g8,Z⟩,hs'⟩,hkk,hdj,hm⟩:=h;have O:r≠b:=λe=>by subst e; rw[V] at U; cases U
 have h2:Sym w0 M I0 I (Fw.pto2 b (.map es clock) r (.mapIter (some b) D seen J) :: l) w:=⟨hb,hi,hn,q,⟨q1,q2,hd',hl1,hl2,⟨V,U⟩,hs'⟩,hkk,hdj,hm⟩;exact⟨es,clock,D,seen,J,g2,g3,g5,g6,W,g8,Z,h2.pto2 O⟩
theorem OwnIt.cls {l:List HA} {es:Array MapEntry} {clock D J:Nat} {seen:Array Nat} (h2:EntsR ke El ag I es.toList kvs) (h3:Stamped es.toList clock) (h5:∀ e∈es.toList,e.born<D) (V:D<=J) (h7:D<=clock) (U:EntsR ke El ag I (leftOf es seen).toList rest) (h9:AoH cur es.toList clock J seen)
  (h:Sym w0 M I0 I (pto r (.mapIter (some b) D seen J) :: pto b (.map es clock) :: l) w):Sym w0 M I0 I (OwnIt ke El ag b r kvs rest cur :: l) w:=
 h.join2 λW O Z ha hb=>⟨es,clock,D,seen,J,IH.le_union_right Z _ _ hb,h2,h3,IH.le_union_left W O _ _ ha,h5,V,h7,U,h9⟩
theorem Ops.rangeM (W:P.underlying T=some (.map kt et)) (U:Del m (OwnMap ke El ag b kvs) m') (hx:ev E x=some (.map (some b))) (O:Nat.blt d n.sz=true) (Z:fresh E d=true)
  (V:∀ r,Ops P ops l n ((d,.pointer (some ⟨r,0,none⟩)) :: E) (Sym w0 M I0 I (OwnIt ke El ag b r kvs kvs none :: m')) Q):Ops P ops (⟨some d,.range T x,ty,pos,af,none⟩ :: l) n E (Sym w0 M I0 I m) Q:=
 Ops.valx (λv w'=>∃ r,v=.pointer (some ⟨r,0,none⟩)∧Sym w0 M I0 I (OwnIt ke El ag b r kvs kvs none :: m') w') rfl rfl
  (λc w h D=>by
   have⟨es,clock,⟨hE,hSt⟩,hs1⟩:=OwnMap.opn (D.del U);have hp:=hs1.pto;refine⟨.pointer (some ⟨w.heap.size,0,none⟩),w.alloc (.mapIter (some b) clock #[] clock),?_,_,rfl,OwnIt.cls (seen:=#[]) hE hSt hSt.2 (YG _) (YG _) ?_ trivial (hs1.alloc _)⟩
   . simp only[execOp,h.eval hx,Instr.range,Sem.run_bind,run_underlying W,Result.andThen_ok,MapKept.run_getObj_map hp,Sem.run_pure];rfl
   . have:leftOf es #[]=es:=by unfold leftOf; rw[Array.filter_eq_self]; simp
     rw[this]; exact hE) O Z
  (λv c w h ⟨r,J,D⟩=>by subst J; exact V r c w h D)
theorem Ops.nextM {A:Prop} {B:κ×α->List (κ×α)->Prop} (hA:Del m (OwnIt ke El ag b r kvs rest cur) m') (hx:ev E x=some (.pointer (some ⟨r,0,none⟩))) (hd:yQ rest A B) (hb:Nat.blt d n.sz=true) (hf:fresh E d=true)
   (k1:A->rest=[]->Ops P ops l n ((d,.tuple #[.bool false]) :: E) (Sym w0 M I0 I m) Q)
   (k2:∀ (p:κ×α) (O:List (κ×α)) v cs,B p O->El.rep I cs p.2->ofC ag cs v->rest≠[]->Ops P ops l n ((d,.tuple #[.bool true,ke p.1,v]) :: E) (Sym w0 M I0 I (OwnIt ke El ag b r kvs O (some (ke p.1,v)) :: m')) Q) :
   Ops P ops (⟨some d,.next x false,ty,pos,af,none⟩ :: l) n E (Sym w0 M I0 I m) Q:=by
 intro c w W hs;have⟨es,clock,h,seen,c0,hE,a5,a4,c1,a3,Z,_,U⟩:=OwnIt.opn (hs.del hA);have hr:=U.pto;have a7:=(U.del (.s .z)).pto;refine wpListIn_plain rfl λ_ hK=>?_;rcases run_next_at (P:=P) w ty r b h c0 seen es clock hr a7 a4 c1 with⟨h0,J⟩ | ⟨e,he,V,c2,J⟩
 . have a2:rest=[]:=by have:=Z.length;grind
   have D:(execOp c.eval ⟨some d,.next x false,ty,pos,af,none⟩).run P w=.ok (.value (.tuple #[.bool false])) w:=by simp[execOp,W.eval hx,J]
   refine kC D (by simp) ?_;simp only[Oper.uponIn];exact hK _ _ (k1 (hd.1 a2) a2 _ _ (W.put hb hf _) hs)
 . have⟨i,hi⟩:=List.getElem?_of_mem he;have⟨p,hp,hkey,cs,d0,a9⟩:=Z.get hi;have D:(execOp c.eval ⟨some d,.next x false,ty,pos,af,none⟩).run P w=.ok (.value (.tuple #[.bool true,e.key,e.val])) (ChangeMaps.setBlock V r (.mapIter (some b) h (seen.push e.born) clock)):=by simp[execOp,W.eval hx,J]
   refine kC D (by simp) ?_;simp only[Oper.uponIn]
   have a6:Sym w0 M I0 I (pto r (.mapIter (some b) h seen c0) :: pto b (.map es clock) :: m') V:=by
     rcases c2 with rfl | rfl
     . exact U
     . exact U.drew _ (AiR _)
   have b0:=a6.pto
   have b1:=a6.upd (o':=.mapIter (some b) h (seen.push e.born) clock) (w':=ChangeMaps.setBlock V r (.mapIter (some b) h (seen.push e.born) clock)) rfl rfl rfl rfl (by simp[ChangeMaps.setBlock])
     (λq _=>by show(V.heap.setIfInBounds r _)[q]? = _; rw[AnC,if_neg (by omega)])
     (by show(V.heap.setIfInBounds r _)[r]? = _; have:=(Array.getElem?_eq_some_iff.1 b0).1; rw[AnC,if_pos rfl,if_pos this])
   have a8:rest≠[]:=λe'=>by rw[e'] at hp; simp at hp
   rw[hkey];refine hK _ _ (k2 p (rest.eraseIdx i) e.val cs (hd.2 i p hp) d0 a9 a8 _ _ (W.put hb hf _) (OwnIt.cls hE a5 a4 a3 a3 ?_ ⟨rfl,e,?_,by simp,hkey,rfl⟩ b1))
   . rw[AaS a5 hi];exact Z.erase i
   . have:e∈leftOf es seen:=by simpa using he
     unfold leftOf at this;grind
theorem Ops.entryM {kv h:Value} (hA:Del m (OwnIt ke El ag b r kvs rest (some (kv,h))) m') (hx:ev E x=some (.pointer (some ⟨r,0,none⟩))) (hb:Nat.blt d n.sz=true) (hf:fresh E d=true)
  (k':Ops P ops l n ((d,.tuple #[kv,h]) :: E) (Sym w0 M I0 I (OwnIt ke El ag b r kvs rest none :: m')) Q):Ops P ops (⟨some d,.entry x,ty,pos,af,none⟩ :: l) n E (Sym w0 M I0 I m) Q:=by
 intro c w W hs;have⟨es,clock,D,seen,_,hE,Z,a2,a5,V,hL,⟨h1,e,h2,_,h4,h5⟩,hs1⟩:=OwnIt.opn (hs.del hA);have hr:=hs1.pto;have a4:=(hs1.del (.s .z)).pto;simp only at h4 h5;refine wpListIn_plain rfl λ_ hK=>?_
 obtain⟨J,O⟩:∃ J:Array Nat,seen=J.push e.born:=by refine⟨seen.pop,?_⟩;grind
 subst O h1;have U:=run_entry_at (P:=P) w r b D J es clock e hr a4 h2 Z.1;have a3:(execOp c.eval ⟨some d,.entry x,ty,pos,af,none⟩).run P w=.ok (.value (.tuple #[kv,h])) w:=by simp[execOp,W.eval hx,U,h4,h5]
 refine kC a3 (by simp) ?_;simp only[Oper.uponIn];exact hK _ _ (k' _ _ (W.put hb hf _) (OwnIt.cls hE Z a2 a5 V hL trivial hs1))
theorem Ops.itEnd (U:Del m (OwnIt ke El ag b r kvs rest cur) m') (V:Ops P ops l n E (Sym w0 M I0 I (OwnMap ke El ag b kvs :: m')) Q):Ops P ops l n E (Sym w0 M I0 I m) Q:=
 Ops.pre (λ_ h=>(h.del U).weaken (B:=OwnMap ke El ag b kvs) λ_ ⟨es,clock,_,_,_,O,J,D,_⟩=>⟨es,clock,O,J,D⟩) V
theorem Cod.itEnd {c:Code} (U:Del m (OwnIt ke El ag b r kvs rest cur) m') (V:Cod P c n E (Sym w0 M I0 I (OwnMap ke El ag b kvs :: m')) Q):Cod P c n E (Sym w0 M I0 I m) Q:=
 Cod.pre (λ_ h=>(h.del U).weaken (B:=OwnMap ke El ag b kvs) λ_ ⟨es,clock,_,_,_,O,J,D,_⟩=>⟨es,clock,O,J,D⟩) V
theorem Ops.lenM {h:Array TypeId} (hT:P.underlying T=some (.map kt et)) (D:h[0]? = some T) (U:Del m (OwnMap ke El ag b kvs) m') (hx:ev E x=some (.map (some b))) (O:Nat.blt d n.sz=true) (Z:fresh E d=true)
  (V:Ops P ops l n ((d,.int .i64 (kvs.length:Int)) :: E) (Sym w0 M I0 I m) Q):Ops P ops (⟨some d,.call ⟨.builtin .len,#[x],h⟩,ty,pos,af,none⟩ :: l) n E (Sym w0 M I0 I m) Q:=
 Ops.val rfl rfl (λ_ _ J W=>by
  have⟨es,_,⟨hE,_⟩,hs1⟩:=OwnMap.opn (W.del U);have e1:es.size=kvs.length:=by have:=hE.length; simpa using this
  simp[execOp,resolve,invoke,builtin,Builtin.len_,J.eval hx,D,run_underlying hT,MapKept.run_getObj_map hs1.pto,goInt,e1]) O Z V
end
theorem RepSl.ofNone {α:Type} {El:EB α} {cap:Nat} {xs:List α} {a:Option Addr} (h:RepSl El I a cap xs) (D:a.isNone=true):xs=[]:=by
 cases xs with
 | nil=>rfl
 | cons x r=>have⟨_,_,_,J,_⟩:=h.2 0 x rfl; subst J; cases D
def AdD {α:Type} (xs:List α) (A B:Prop):Prop:=(xs=[]->A)∧B
theorem wW (w:World) (d:Nat) (t e:TypeId) (a:Option Addr) (l c:Nat) (h:P.underlying t=some (.slice e)):(Op.equalIn (d+1) t (.slice a l c) (.slice none 0 0)).run P w=.ok a.isNone w:=by cases a <;> simp[Op.equalIn,run_underlying h]
theorem AaT (w:World) (t e:TypeId) (a:Option Addr) (l c:Nat) (h:P.underlying t=some (.slice e)):(Op.equal t (.slice a l c) (.slice none 0 0)).run P w=.ok a.isNone w:=wW w 9999 t e a l c h
theorem Ops.eqNilS {S:World->Prop} {D:TypeId} {a:Option Addr} {k cap:Nat} (V:P.underlying T=some (.slice e)) (hx:ev E x=some (.slice a k cap)) (W:ev E y=some (.slice none 0 0)) (O:Nat.blt d n.sz=true) (U:fresh E d=true)
  (J:Ops P ops l n ((d,.bool a.isNone) :: E) S Q):Ops P ops (⟨some d,.binOp .eql T x y D,ty,pos,af,none⟩ :: l) n E S Q:=
 Ops.val rfl rfl (λ_ w h _=>by
  have Z:(eqGuard .eql T x y (.slice a k cap) (.slice none 0 0)).run P w=.ok () w:=by unfold eqGuard; rfl
  simp only[execOp,h.eval hx,h.eval W,Sem.run_bind,Z,Result.andThen_ok,binOp];simp[AaT w T e a k cap V]) O U J
end
section
variable {w0 w:World} {M:Nat→Prop} {I0 I:IH} {m m':List HA}
variable {P:Program} {n:FrK} {E:DF} {Q:Exit→Act→World→Prop} {ops:Array Oper} {l:List Oper}
variable {d ty:Nat} {pos:String} {af:Array Edge} {T e:TypeId} {x y z:Operand}
variable {α:Type} {El:EB α} {xs ys:List α} {a:Option Addr} {cap:Nat}
/-! ### Elements of own slices that lead on -/
variable {T':TypeId} {m2:List HA} {sT:TypeId} {zc:Value}
theorem OwnSl.els {b:Nat} (h:Sym w0 M I0 I m w) (O:Del m (OwnSl El T' (some ⟨b,0,none⟩) cap xs) m') {i:Nat} {v:α} (hi:xs[i]? = some v) :
   ∃ cs,El.rep I cs v∧∀ j u,cs[j]? = some u->w.cell? ⟨b,i*El.sz+j,none⟩=some u:=by
 have⟨_,W,hk⟩:=(h.del O).get;rcases W with⟨D,_⟩ | ⟨b',c,D,V,h3,h4,U⟩
 . cases D
 . cases D;have⟨cs,g1,Z⟩:=U i v hi;exact⟨cs,g1,λj u J=>by rw[N2 (hk _ _ V)]; exact Z j u J⟩
theorem Ops.loEW {b o i U:Nat} {v:α} (hT:∀ w,(isAgg T).run P w=.ok true w) (hS:∀ w,(sizeOf T).run P w=.ok U w) (W:Del m (OwnSl El T' (some ⟨b,0,none⟩) cap xs) m') (hi:xs[i]? = some v)
  (hx:ev E x=some (.pointer (some ⟨b,o,none⟩))) (J:o=i*El.sz) (hl:El.sz=U) (V:Nat.blt d n.sz=true) (hf:fresh E d=true) (k:∀ cs,El.rep I cs v->Ops P ops l n ((d,.agg cs.toArray) :: E) (Sym w0 M I0 I m) Q) :
  Ops P ops (⟨some d,.load T x,ty,pos,af,none⟩ :: l) n E (Sym w0 M I0 I m) Q:=
 Ops.valx (λu w'=>(∃ cs,u=.agg cs.toArray∧El.rep I cs v)∧Sym w0 M I0 I m w') rfl rfl (λc w hc D=>by subst J;have⟨cs,h,g2⟩:=OwnSl.els D W hi;refine⟨.agg cs.toArray,w,?_,⟨cs,rfl,h⟩,D⟩;simp[execOp,hc.eval hx,L5 (P:=P) hT hS (El.len h |>.trans hl) (λZ v' O=>g2 Z v' O)]) V hf (λu c w J ⟨⟨cs,hu,h⟩,D⟩=>by subst hu; exact k cs h c w J D)
def TM (a:Option Addr) (cap L s:Nat):Option Addr:=if cap=L then a else a.map (·.add (L*s))
theorem OwnSl.take {k:IH} (h:(OwnSl El T a cap xs).holds I k) (H:Nat):(OwnSl El T a cap (xs.take H)).holds I k:=by
 rcases h with⟨J,D,O⟩ | ⟨b,c,J,D,O,V,U⟩
 . exact .inl ⟨J,by rw[D]; simp,O⟩
 . refine .inr ⟨b,c,J,D,by simp; omega,V,λi x _=>U i x ?_⟩;grind
theorem Sym.takeSl (h:Sym w0 M I0 I m w) {H:Nat} (J:At m (OwnSl El T a cap xs) m' (OwnSl El T a cap (xs.take H))):Sym w0 M I0 I m' w:=
 Sym.reAt J h λ_ D=>D.weaken λ_ hk=>OwnSl.take hk H
theorem Ops.takeSl (H:Nat) (D:At m (OwnSl El T a cap xs) m' (OwnSl El T a cap (xs.take H))) (k:Ops P ops l n E (Sym w0 M I0 I m') Q):Ops P ops l n E (Sym w0 M I0 I m) Q:=Ops.pre (λ_ h=>h.takeSl D) k
theorem dI (a:Option Addr) (cap s:Nat):TM a cap 0 s=a:=by
 unfold TM;split
 . rfl
 . cases a with
   | none=>rfl
   | some p=>simp only[Ag3,Ag7,Addr.add]; split <;> simp_all
theorem Ops.ownCap (O:Del m (OwnSl El T a cap xs) m') (k:xs.length<=cap->Ops P ops l n E (Sym w0 M I0 I m) Q):Ops P ops l n E (Sym w0 M I0 I m) Q:=by
 intro c w J h;refine k ?_ c w J h;have⟨_,U,_⟩:=(h.del O).get;rcases U with⟨_,V,D⟩ | ⟨b,_,_,_,D,_⟩
 all_goals grind
theorem Cod.ownCap {c:Code} (O:Del m (OwnSl El T a cap xs) m') (k:xs.length<=cap->Cod P c n E (Sym w0 M I0 I m) Q):Cod P c n E (Sym w0 M I0 I m) Q:=by
 intro c w J h;refine k ?_ c w J h;have⟨_,U,_⟩:=(h.del O).get;rcases U with⟨_,V,D⟩ | ⟨b,_,_,_,D,_⟩
 all_goals grind
theorem Ops.sliceOm {S:World->Prop} {lo hi mx:Option Operand} {q O h:IntKind} {i j t:Int} {k s:Nat} (hT:P.underlying T=some (.slice e)) (W:∀ w,(sizeOf e).run P w=.ok s w) (Z:ev E x=some (.slice a k cap))
   (hl:oev E lo=some (some (.int q i))) (hh:oev E hi=some (some (.int O j))) (hm:oev E mx=some (some (.int h t))) (h0:0<=i) (h1:i<=j) (h2:j<=t) (h3:t<=cap) (hb:Nat.blt d n.sz=true) (hf:fresh E d=true)
   (U:∀ v,Ops P ops l n ((d,v) :: E) S Q):Ops P ops (⟨some d,.slice T x lo hi mx,ty,pos,af,none⟩ :: l) n E S Q:=by
 have J:∀ w,(Instr.sliceBounds true k cap (some (.int q i)) (some (.int O j)) (some (.int h t))).run P w=.ok (i.toNat,j.toNat,t.toNat) w:=by
   intro w;have g0:0<=t:=by omega
   have g1:(0:Int)<=j:=by omega
   have g2:j<=max t 0:=by omega
   have g3:i<=max j 0:=by omega
   simp[Instr.sliceBounds,Instr.sliceBound,asIntOf,h0,g0,h3,g1,g2,g3]
 refine Ops.valx (λ_ w'=>S w') rfl rfl (λ_ w D V=>⟨.slice (if t.toNat=i.toNat then a else a.map (·.add (i.toNat*s))) (j.toNat - i.toNat) (t.toNat - i.toNat),w,?_,V⟩) hb hf (λv=>U v)
 . simp only[execOp,D.eval Z,O6 D hl,O6 D hh,O6 D hm,Instr.sliceAt,Sem.run_bind,run_underlying hT,Result.andThen_ok,Instr.slice,J,W,Sem.run_pure]
theorem Ops.sliceO {lo hi:Option Operand} {U V:Option Value} {L H k s:Nat} (hT:P.underlying T=some (.slice e)) (hs:∀ w,(sizeOf e).run P w=.ok s w) (hx:ev E x=some (.slice a k cap)) (hk:k=xs.length)
  (Z:Del m (OwnSl El T' a cap xs) m') (hl:oev E lo=some U) (hh:oev E hi=some V) (O:U=none∧L=0∨∃ q i,U=some (.int q i)∧0<=i∧i.toNat=L)
  (D:V=none∧H=k∨∃ q i,V=some (.int q i)∧0<=i∧i.toNat=H) (h1:L<=H) (W:H<=xs.length) (hb:Nat.blt d n.sz=true) (hf:fresh E d=true)
  (k':Ops P ops l n ((d,.slice (TM a cap L s) (H - L) (cap - L)) :: E) (Sym w0 M I0 I m) Q) :
  Ops P ops (⟨some d,.slice T x lo hi none,ty,pos,af,none⟩ :: l) n E (Sym w0 M I0 I m) Q:=by
 subst hk;refine Ops.val rfl rfl (λ_ w J h=>?_) hb hf k';have⟨_,ha,_⟩:=(h.del Z).get
 have hc:xs.length<=cap:=by
  rcases ha with⟨_,W,h3⟩ | ⟨b,_,_,_,h3,_⟩
  all_goals grind
 have hr:=sV (P:=P) (a:=a) hT hs h1 W hc O D w;simp only[execOp,J.eval hx,O6 J hl,O6 J hh,AiG,hr,Sem.run_bind,Sem.run_pure,Result.andThen_ok];rfl
theorem Ops.sliceTail {lo hi:Option Operand} {L N k s:Nat} {q W:IntKind} {i j:Int} (hT:P.underlying T=some (.slice e)) (hs:∀ w,(sizeOf e).run P w=.ok s w) (hx:ev E x=some (.slice a k cap))
  (hl:oev E lo=some (some (.int q i))) (hh:oev E hi=some (some (.int W j))) (U:0<=i) (D:i.toNat=L) (V:0<=j) (O:j.toNat=N) (h1:L<=N) (h2:N<=cap) (hb:Nat.blt d n.sz=true) (hf:fresh E d=true) {S:World->Prop}
  (k':Ops P ops l n ((d,.slice (TM a cap L s) (N - L) (cap - L)) :: E) S Q) :
  Ops P ops (⟨some d,.slice T x lo hi none,ty,pos,af,none⟩ :: l) n E S Q:=by
 refine Ops.val rfl rfl (λ_ w h _=>?_) hb hf k'
 have J:(Instr.sliceBounds true k cap (some (.int q i)) (some (.int W j)) none).run P w=.ok (L,N,cap) w:=by
  have Z:j<=(cap:Int):=by omega
  have g2:i<=(N:Int):=by omega
  simp[Instr.sliceBounds,Instr.sliceBound,asIntOf,U,V,Z,O,g2,D]
 simp only[execOp,h.eval hx,O6 h hl,O6 h hh,AiG,Instr.sliceAt,Sem.run_bind,run_underlying hT,Result.andThen_ok,Instr.slice,J,hs,Sem.run_pure];rfl
section
variable {enc:α→List Value} {s:Nat} {he:∀ x,(enc x).length=s∧KE (enc x)=true}
theorem Sym.appendDel {ty':TypeId} {r:List HA} {B:Nat} {i:TypeInfo} (h:Sym w0 M I0 I (OwnSl (EW s enc he) e a cap xs :: r) w)
   (hT:P.underlying sT=some (.slice e)) (hi:P.info? e=some i) (c0:i.size=s) (hB:i.bytes=B) (hz:i.zero=some zc) (e9:zc.cells.size=s) {L H:Nat} (h1:L<=H) (h2:H<=xs.length) :
   ∃ w',(Builtin.append_ #[sT,sT] ty' #[.slice a L cap,.slice (TM a cap H s) (xs.length - H) (cap - H)]).run P w=.ok (.slice a (xs.take L++xs.drop H).length cap) w'∧Sym w0 M I0 I (OwnSl (EW s enc he) e a cap (xs.take L++xs.drop H) :: r) w':=by
 have⟨k1,ha,d1⟩:=h.get
 have hc:xs.length<=cap:=by
   rcases ha with⟨_,h2,h3⟩ | ⟨b,_,_,_,h3,_⟩
   all_goals grind
 have hR:RepSl (EW s enc he) (hp w) a cap xs:=Al7 ⟨k1,(OwnSl (EW s enc he) e a cap xs).mono h.imm (IH.le.refl _) ha,d1⟩;have b0:=hR.slice h2 (YG _);rw[QW] at b0;have d7:Sym w (λb=>(λ_=>none:IH) b≠none) (hp w) (hp w) [] w:=Fun.start (IH.le.refl _) trivial (λ_ _ x=>nomatch x) (λ_=>.inr rfl);have⟨_,src,U,d4⟩:=Src.imm (P:=P) (m:=[]) (w0:=w) (M:=λb=>(λ_=>none:IH) b≠none) (I0:=hp w) (k:=xs.length - H) b0 (by simp);have a5:(xs.drop H).length=xs.length - H:=by simp
 have e5:RepCs (EW s enc he) I src (xs.drop H):=⟨U.1,U.2.1,U.2.2⟩;have a2:(xs.take L).length=L:=by grind
 have D:(xs.take L).length+(xs.drop H).length<=cap:=by rw[a2,a5]; omega
 have b1:Sym w0 M I0 I (OwnSl (EW s enc he) e a cap (xs.take L) :: r) w:=h.weaken λ_ hk=>OwnSl.take hk L;have⟨_,_,_⟩:=b1.get;have e4:=d4 w d7
 -- in place
 rcases ha with⟨g1,g2,O⟩ | ⟨b,c,g1,g2,O,W,g5⟩
 . subst g1 g2 O;have hL:L=0:=by simp at h2; omega
   have hH:H=0:=by simpa using h2
   subst hL hH;refine⟨w,?_,?_⟩
   . have:=N3 (P:=P) (w:=w) (w':=w) (ty':=ty') (a:=none) (cap:=0) (k:=0) (kv:=0) (cv:=0) (bv:=none) (src:=#[]) (s:=s) hT hT (λw=>by simp[sizeOf,typeInfo,hi,c0]) (by omega) (by simp[Builtin.firstCells]) (λp hp=>by cases hp) (λ_=>rfl);simpa[TM] using this
   . simpa using h
 . subst g1;have d6:∀ w,(sizeOf e).run P w=.ok s w:=λw=>by simp[sizeOf,typeInfo,hi,c0]
   have⟨hb,d9,hn,q,⟨q1,q2,hd',hl1,hl2,V,hs'⟩,hkk,hdj,hm⟩:=b1;rcases V with⟨a6,_⟩ | ⟨b',J,a6,c1,e6,a7,c2⟩
   . cases a6
   cases a6;have a8:Sym w0 M I0 I (Fw.pto b (.cells J e (0,0)) :: r) w:=⟨hb,d9,hn,q,⟨q1,q2,hd',hl1,hl2,c1,hs'⟩,hkk,hdj,hm⟩;have e2:L*s+(xs.drop H).length*s<=cap*s:=by rw[<-WL]; exact wS _ (by rw[a2] at D; exact D)
   have d5:src.length=(xs.drop H).length*s:=e5.1;have hr:=run_storeCells_at (P:=P) b (L*s) e src 0 J w a8.pto (by rw[d5]; show _<=J.size; rw[a7]; exact e2) (TJ U.2.2);have e1:(⟨b,0,none⟩:Addr).add (L*s)=⟨b,L*s,none⟩:=by unfold Addr.add; split <;> simp_all
   have a9:=e4 w rfl;rw[a5] at a9;refine⟨w.setRow b (J.toList.take (L*s+0)++src++J.toList.drop (L*s+0+src.length)).toArray,?_,?_⟩
   . have:=N3 (P:=P) (w:=w) (ty':=ty') (a:=some ⟨b,0,none⟩) (cap:=cap) (k:=L) (kv:=xs.length - H) (cv:=cap - H) (bv:=TM (some ⟨b,0,none⟩) cap H s) (src:=src.toArray) (s:=s) hT hT d6 (by rw[a2,a5] at D; exact D) a9 (λp hp=>by cases hp; rw[e1]; exact hr) (λh=>by cases h);grind
   . have d8:=a8.upd (o':=.cells (J.toList.take (L*s+0)++src++J.toList.drop (L*s+0+src.length)).toArray e (0,0)) (w':=w.setRow b _) rfl rfl rfl rfl (by simp[World.setRow]) (λq V=>Fw.setRow_other V) (setRow_heap w b _ _ e _ a8.pto);refine d8.weaken λq V=>.inr ⟨b,_,rfl,V,by rw[fC]; exact D,?_,?_⟩
     . have a4:J.size=cap*s:=a7;grind
     . intro Z x2 a3;simp only[YH,AaH];have a4:J.size=cap*s:=a7;rcases aG Z L with h6 | h6
       . rw[rD (by omega)] at a3;have⟨cs,O,W⟩:=c2 Z x2 a3;refine⟨cs,O,λj u hj=>?_⟩
         have e8:j<s:=by have h0:cs.length=s:=(EW s enc he).len O;grind
         have d3:(Z+1)*s<=L*s:=wS _ h6;rw[WL,sS] at d3;have:=W j u hj;rw[<-AnH] at this;have f0:J.toList[Z*s+j]? = some u:=this;have d2:L*s<=J.toList.length:=by simp[a4]; omega
         show(_++_++_)[Z*s+j]? = _;grind
       . rw[AaG (by omega)] at a3;have⟨cs,O,W⟩:=U.2.1 _ x2 a3;refine⟨cs,O,λj u hj=>?_⟩;have h7:=W j u hj;have h8:=(List.getElem?_eq_some_iff.1 h7).1;rw[a2] at h7 h8;have e3:Z*s=L*s+(Z - L)*s:=by rw[<-WL]; congr 1; omega
         have d0:src[(Z - L)*s+j]? = some u:=h7;have e7:(Z - L)*s+j<src.length:=h8;have d2:L*s<=J.toList.length:=by simp[a4]; omega
         show(_++_++_)[Z*s+j]? = _;rw[nP,AaG (by rw[QX]; omega),rD (by rw[QX]; omega),<-d0];grind
theorem Ops.appendDel {i:TypeInfo} {D:Array TypeId} {L H:Nat} (B:Nat) (hA:At m (OwnSl (EW s enc he) e a cap xs) m' (OwnSl (EW s enc he) e a cap (xs.take L++xs.drop H))) (hT:P.underlying sT=some (.slice e)) (hi:P.info? e=some i)
  (U:i.size=s) (hB:i.bytes=B) (hz:i.zero=some zc) (a7:zc.cells.size=s) (J:D = #[sT,sT]) {a1:Option Addr} {W h Z:Nat} (hx:ev E x=some (.slice a1 W h)) (hy:ev E y=some (.slice (TM a cap H s) (Z - H) (cap - H)))
  (a5:a1=a) (a6:W=L) (a4:h=cap) (a3:Z=xs.length) (h1:L<=H) (h2:H<=xs.length) (hb:Nat.blt d n.sz=true) (hf:fresh E d=true)
  (k':Ops P ops l n ((d,.slice a (xs.take L++xs.drop H).length cap) :: E) (Sym w0 M I0 I m') Q) :
  Ops P ops (⟨some d,.call ⟨.builtin .append,#[x,y],D⟩,ty,pos,af,none⟩ :: l) n E (Sym w0 M I0 I m) Q:=
 Ops.valx (λv w'=>v=.slice a (xs.take L++xs.drop H).length cap∧Sym w0 M I0 I m' w') rfl rfl
  (λc w O V=>by
   subst a5 a6 a4 a3;have⟨_,g2,g3⟩:=hA.del;have⟨w',hr,a2⟩:=Sym.appendDel (P:=P) (ty':=ty) (V.del g2) hT hi U hB hz a7 h1 h2;subst J;refine⟨_,w',?_,rfl,a2.undel g3⟩;have e:(#[x,y].map c.eval) = #[.slice a1 W h,.slice (TM a1 h H s) (xs.length - H) (h - H)]:=by simp[O.eval hx,O.eval hy]
   simp only[execOp,resolve,e,Sem.run_bind,Sem.run_pure,Result.andThen_ok,invoke,builtin,hr]) hb hf
  (λv c w O ⟨hv,V⟩=>by subst hv; exact k' c w O V)
end
theorem Ops.clearTail {i:TypeInfo} {a7:Array TypeId} {L N:Nat} (hA:Del m (OwnSl El e a cap xs) m') (hT:P.underlying sT=some (.slice e)) (hi:P.info? e=some i)
    (d6:i.size=El.sz) (hz:i.zero=some zc) (d0:zc.cells.size=El.sz) (c2:KE zc.cells.toList=true) (a3:a7[0]? = some sT) (hx:ev E x=some (.slice (TM a cap L El.sz) (N - L) (cap - L)))
    (h1:L=xs.length) (h2:N<=cap) (k':Ops P ops l n E (Sym w0 M I0 I m) Q) :
    Ops P ops (⟨none,.call ⟨.builtin .clear,#[x],a7⟩,ty,pos,af,none⟩ :: l) n E (Sym w0 M I0 I m) Q:=
  Ops.val0 rfl rfl (λc w ho hs=>by
    have e0:(#[x].map c.eval) = #[.slice (TM a cap L El.sz) (N - L) (cap - L)]:=by simp[ho.eval hx]
    have d1:∀ w,(zeroValue e).run P w=.ok zc w:=λw=>by simp[zeroValue,typeInfo,hi,hz]
    have c0:=hs.del hA;have⟨hb,d2,hn,q,⟨q1,q2,hd',hl1,hl2,O,hs'⟩,hkk,hdj,hm⟩:=c0;rcases O with⟨U,V,W⟩ | ⟨b,J,U,V,W,Z,g5⟩
    . subst U V W;refine⟨.tuple #[],w,?_,hs⟩;have hN:N - L=0:=by omega
      have D:TM none 0 L El.sz=none:=by unfold TM; split <;> rfl
      simp[execOp,resolve,e0,invoke,builtin,Builtin.clear_,a3,run_underlying hT,D]
    . subst U;by_cases hN:N - L=0
      . refine⟨.tuple #[],w,?_,hs⟩;rw[hN] at e0;have D:∃ ad,TM (some ⟨b,0,none⟩) cap L El.sz=some ad:=by unfold TM; split <;> exact⟨_,rfl⟩
        have⟨ad,D⟩:=D;rw[D] at e0;simp[execOp,resolve,e0,invoke,builtin,Builtin.clear_,a3,run_underlying hT]
      . have D:TM (some ⟨b,0,none⟩) cap L El.sz=some ⟨b,L*El.sz,none⟩:=by unfold TM;rw[if_neg (by omega)];simp only[Ag3,Addr.add]; split <;> simp_all
        rw[D] at e0;have a2:Sym w0 M I0 I (Fw.pto b (.cells J e (0,0)) :: m') w:=⟨hb,d2,hn,q,⟨q1,q2,hd',hl1,hl2,V,hs'⟩,hkk,hdj,hm⟩;have d7:L*El.sz+(N - L)*El.sz<=cap*El.sz:=by rw[<-WL]; exact wS _ (by omega)
        have a6:(Builtin.zeroCells zc.cells (N - L)).toList.length=(N - L)*El.sz:=by simp[AaO _ d0]
        have a8:∀ v∈(Builtin.zeroCells zc.cells (N - L)).toList,one v=true:=by
          intro v D;simp only[Builtin.zeroCells,Array.toList_map,hM,Array.toList_range,AiL] at D;obtain⟨i',a9,rfl⟩:=D
          have d3 : 0 < zc.cells.size := by
            rcases aD zc.cells.size with h | h; · simp[h] at a9
            . exact h
          have b0:i' % zc.cells.size<zc.cells.size:=Ad4 _ d3;rw[getElem!_pos zc.cells _ b0];exact TJ c2 _ (by simp)
        have hr:=run_storeCells_at (P:=P) b (L*El.sz) e (Builtin.zeroCells zc.cells (N - L)).toList 0 J w a2.pto (by rw[a6,Z]; omega) a8;refine⟨.tuple #[],w.setRow b (J.toList.take (L*El.sz+0)++(Builtin.zeroCells zc.cells (N - L)).toList++J.toList.drop (L*El.sz+0+(Builtin.zeroCells zc.cells (N - L)).toList.length)).toArray,?_,?_⟩
        . have a4:(storeCells ⟨b,L*El.sz,none⟩ (Builtin.zeroCells zc.cells (N - L)).toList).run P w=.ok () (w.setRow b (J.toList.take (L*El.sz+0)++(Builtin.zeroCells zc.cells (N - L)).toList++J.toList.drop (L*El.sz+0+(Builtin.zeroCells zc.cells (N - L)).toList.length)).toArray):=hr
          cases hk:N - L with
          | zero=>exact absurd hk hN
          | succ k=>
            rw[hk] at a4 e0;simp only[execOp,resolve,e0,invoke,builtin,Builtin.clear_,Sem.run_bind,Sem.run_pure,Result.andThen_ok,a3,AaH,AnE,run_underlying hT,d1,a4]
        . have c1:=a2.upd (o':=.cells (J.toList.take (L*El.sz+0)++(Builtin.zeroCells zc.cells (N - L)).toList++J.toList.drop (L*El.sz+0+(Builtin.zeroCells zc.cells (N - L)).toList.length)).toArray e (0,0)) (w':=w.setRow b _) rfl rfl rfl rfl (by simp[World.setRow]) (λq O=>Fw.setRow_other O) (setRow_heap w b _ _ e _ a2.pto);refine(Sym.weaken c1 (B:=OwnSl El e (some ⟨b,0,none⟩) cap xs) λq O=>.inr ⟨b,_,rfl,O,W,?_,?_⟩).undel hA
          . simp only[AnW,fC,QX,Ag2,Ag0,a6,Z]; omega
          . intro i2 x2 a5;have⟨cs,u1,u2⟩:=g5 i2 x2 a5;refine⟨cs,u1,λj u hj=>?_⟩;have d4:=(List.getElem?_eq_some_iff.1 a5).1;have d5:j<El.sz:=by rw[<-El.len u1]; exact(List.getElem?_eq_some_iff.1 hj).1
            have b1:(i2+1)*El.sz<=L*El.sz:=wS _ (by omega);rw[WL,sS] at b1;have:=u2 j u hj;rw[<-AnH] at this;simp only[YH,AaH];rw[nP,rD (by rw[QX]; simp only[Ag0,Z]; omega),rF,if_pos (by omega),this]) k'
theorem Ops.sliceT {hi:Option Operand} {H k s:Nat} {q:IntKind} {i:Int} (hT:P.underlying T=some (.slice e)) (V:∀ w,(sizeOf e).run P w=.ok s w) (U:ev E x=some (.slice a k cap)) (hk:k=xs.length)
  (D:Del m (OwnSl El T' a cap xs) m') (a2:At m (OwnSl El T' a cap xs) m2 (OwnSl El T' a cap (xs.take H))) (O:oev E hi=some (some (.int q i))) (J:0<=i) (h1:i.toNat=H) (Z:H<=xs.length)
  (h:Nat.blt d n.sz=true) (W:fresh E d=true) (k':Ops P ops l n ((d,.slice a (xs.take H).length cap) :: E) (Sym w0 M I0 I m2) Q) :
  Ops P ops (⟨some d,.slice T x none hi none,ty,pos,af,none⟩ :: l) n E (Sym w0 M I0 I m) Q:=by
 refine Ops.sliceO (L:=0) (H:=H) (s:=s) hT V U hk D rfl O (.inl ⟨rfl,rfl⟩) (.inr ⟨_,_,rfl,J,h1⟩) (sU _) Z h W ?_;grind[dI,Ops.takeSl]
@[reducible] def kK (sz:Nat):Type:={cs:List Value // cs.length=sz∧KE cs=true}
@[reducible] def AdE (sz:Nat):EB (kK sz):=EW sz Subtype.val λx=>x.2
structure RepR (El:EB α) (I:IH) (css:List (kK El.sz)) (xs:List α):Prop where
 len:css.length=xs.length
 all:∀ (i:Nat) (x:α),xs[i]? = some x→∃ c:kK El.sz,css[i]? = some c∧El.rep I c.1 x
theorem RepR.mono {J:IH} {D:List (kK El.sz)} (h:RepR El I D xs) (O:I.le J):RepR El J D xs:=⟨h.len,λi x W=>let ⟨c,U,V⟩:=h.all i x W; ⟨c,U,El.mono O V⟩⟩
theorem RepR.get {D:List (kK El.sz)} (h:RepR El I D xs) {i:Nat} {x:α} (V:xs[i]? = some x):∃ c J,D[i]? = some ⟨c,J⟩∧El.rep I c x:=
 let ⟨c,U,O⟩:=h.all i x V; ⟨c.1,c.2,U,O⟩
theorem RepR.set {D:List (kK El.sz)} (h:RepR El I D xs) (i:Nat) {x:α} {cs:List Value} (U:El.rep I cs x) (hp:cs.length=El.sz∧KE cs=true):RepR El I (D.set i ⟨cs,hp⟩) (xs.set i x):=by
 refine⟨by simp only[QV]; exact h.len,λj y J=>?_⟩;by_cases e:i=j
 . subst e;have O:i<xs.length:=by grind
   rw[AkX O] at J; cases J;exact⟨⟨cs,hp⟩,AkX (by have:=h.len; omega),U⟩
 . rw[AfZ e] at J;rw[AfZ e];exact h.all j y J
theorem Ax0 {sz:Nat} {R:Nat->α->kK sz->Prop}:∀ {xs:List α},(∀ (i:Nat) (x:α),xs[i]? = some x->∃ c,R i x c)->∃ D:List (kK sz),D.length=xs.length∧∀ (i:Nat) (x:α),xs[i]? = some x->∃ c,D[i]? = some c∧R i x c:=by
 intro xs
 induction xs generalizing R with
 | nil=>simp_all
 | cons W xs U=>
  intro h;have⟨O,_⟩:=h 0 W rfl;have⟨D,V,_⟩:=U (R:=λi=>R (i+1)) λi x J=>h (i+1) x (by simpa using J);refine⟨O :: D,by simp[V],λi x J=>?_⟩;grind
theorem Sym.openS (a2:Sym w0 M I0 I (OwnSl El T a cap xs :: m) w):∃ D:List (kK El.sz),RepR El I D xs∧Sym w0 M I0 I (OwnSl (AdE El.sz) T a cap D :: m) w:=by
 obtain ⟨hb,hi,hn,k,⟨h1,h2,hd',hl1,hl2,ha,hs'⟩,hk,hdj,hm⟩:=a2
 rcases ha with ⟨V,Z,g3⟩ | ⟨b,J,V,Z,g3,g4,g5⟩
 · subst Z
   exact ⟨[],⟨rfl,fun i x O=>by simp at O⟩,hb,hi,hn,k,⟨h1,h2,hd',hl1,hl2,.inl ⟨V,rfl,g3⟩,hs'⟩,hk,hdj,hm⟩
 · obtain ⟨D,e1,e2⟩:=Ax0 (sz:=El.sz) (R:=fun i x c=>El.rep I c.1 x∧∀ (j:Nat) (v:Value),c.1[j]? = some v→J[i*El.sz+j]? = some v) fun i x O=>by
    obtain ⟨cs,h,f2⟩:=g5 i x O
    exact ⟨⟨cs,El.len h,El.one h⟩,h,f2⟩
   refine ⟨D,⟨e1,fun i x O=>let ⟨c,U,W⟩:=e2 i x O; ⟨c,U,W.1⟩⟩,hb,hi,hn,k,⟨h1,h2,hd',hl1,hl2,.inr ⟨b,J,V,Z,by omega,g4,fun i c hc=>?_⟩,hs'⟩,hk,hdj,hm⟩
   have a3:=(List.getElem?_eq_some_iff.1 hc).1
   obtain ⟨_,U,W⟩:=e2 i (xs[i]'(by omega)) (zL8 _)
   rw [hc] at U; cases U
   exact ⟨c.1,rfl,W.2⟩
theorem Sym.closeS {D:List (kK El.sz)} (O:RepR El I D xs) (h:Sym w0 M I0 I (OwnSl (AdE El.sz) T a cap D :: m) w):Sym w0 M I0 I (OwnSl El T a cap xs :: m) w:=by
 have⟨hb,hi,hn,k,⟨h1,h2,hd',hl1,hl2,ha,hs'⟩,hk,hdj,hm⟩:=h;refine⟨hb,hi,hn,k,⟨h1,h2,hd',hl1,hl2,?_,hs'⟩,hk,hdj,hm⟩;rcases ha with⟨V,U,W⟩ | ⟨b,J,V,U,W,g4,g5⟩
 . have:=O.len; rw[U] at this;exact .inl ⟨V,ArT this.symm,W⟩
 . refine .inr ⟨b,J,V,U,by have:=O.len; omega,g4,λi x hx=>?_⟩;have⟨c,q1,Z⟩:=O.all i x hx;have⟨_,q3,q4⟩:=g5 i c q1;cases q3;exact⟨c.1,Z,q4⟩
theorem Ops.openS (U:Del m (OwnSl El T a cap xs) m2) (k:∀ h:List (kK El.sz),RepR El I h xs->Ops P ops l n E (Sym w0 M I0 I (OwnSl (AdE El.sz) T a cap h :: m2)) Q):Ops P ops l n E (Sym w0 M I0 I m) Q:=by intro c w J D;have⟨h,V,O⟩:=(D.del U).openS;exact k h V c w J O
theorem Cod.openS {c:Code} (U:Del m (OwnSl El T a cap xs) m2) (k:∀ h:List (kK El.sz),RepR El I h xs->Cod P c n E (Sym w0 M I0 I (OwnSl (AdE El.sz) T a cap h :: m2)) Q):Cod P c n E (Sym w0 M I0 I m) Q:=by intro c w J D;have⟨h,V,O⟩:=(D.del U).openS;exact k h V c w J O
theorem Ops.closeS {h:List (kK El.sz)} (J:Del m (OwnSl (AdE El.sz) T a cap h) m2) (O:RepR El I h xs) (k:Ops P ops l n E (Sym w0 M I0 I (OwnSl El T a cap xs :: m2)) Q):Ops P ops l n E (Sym w0 M I0 I m) Q:=
 Ops.pre (λ_ D=>(D.del J).closeS O) k
end
variable {w0 w:World} {M:Nat→Prop} {I0 I:IH} {m m':List HA}
variable {P:Program} {n:FrK} {E:DF} {Q:Exit→Act→World→Prop} {l:List Oper} {ops:Array Oper}
variable {d ty:Nat} {pos:String} {af:Array Edge} {x y:Operand} {α:Type} {cap:Nat} {xs ys:List α}
variable {T' dT sT eT:TypeId} {dc sc:Nat} {tys:Array TypeId} {dl sl:Nat} {sp:Option Addr}
theorem AvB {enc:α->Value} {cs:List Value} {o i:Nat} {x:α} (O:xs.length<=cs.length) (old:∀ (q:Nat) z,xs[q]? = some z->cs[q]? = some (enc z)) (J:o+ys.length<=xs.length) (D:(xs.take o++ys++xs.drop (o+ys.length))[i]? = some x) :
   (cs.take o++ys.map enc++cs.drop (o+ys.length))[i]? = some (enc x):=by
 rw[nP,List.getElem?_append,QX,Ao4 (by omega)] at D ⊢;by_cases h:i<o
 . rw[if_pos h,rF,if_pos h] at D ⊢;exact old _ _ D
 . rw[if_neg h,List.getElem?_append] at D ⊢;rw[nW];by_cases h2:i - o<ys.length
   . rw[if_pos h2] at D ⊢;rw[AaK,D]; rfl
   . rw[if_neg h2,AkZ] at D ⊢;exact old _ _ D
theorem OwnSl.copy {enc:α->Value} {Z:∀ x,([enc x]:List Value).length=1∧KE [enc x]=true} {b o:Nat} {r:List HA} (a2:Sym w0 M I0 I (OwnSl (EW 1 (λx=>[enc x]) Z) T' (some ⟨b,0,none⟩) cap xs :: r) w) (hf:o+ys.length<=xs.length) :
   ∃ D t,w.heap[b]? = some (.cells D t (0,0))∧o+ys.length<=D.size ∧
     Sym w0 M I0 I (OwnSl (EW 1 (λx=>[enc x]) Z) T' (some ⟨b,0,none⟩) cap (xs.take o++ys++xs.drop (o+ys.length)) :: r) (w.setRow b (D.toList.take o++ys.map enc++D.toList.drop (o+ys.length)).toArray):=by
 have⟨hb,U,hn,k,⟨k1,k2,hd',hl1,hl2,ha,hs'⟩,hk,hdj,hm⟩:=a2;rcases ha with⟨J,_⟩ | ⟨b',c,J,h2,h3,h4,h5⟩
 . cases J
 . cases J;have O:Sym w0 M I0 I (Fw.pto b (.cells c T' (0,0)) :: r) w:=⟨hb,U,hn,k,⟨k1,k2,hd',hl1,hl2,h2,hs'⟩,hk,hdj,hm⟩;have hc:c.size=cap:=by rw[h4]; exact AaM _
   refine⟨c,T',O.pto,by omega,?_⟩;have W:=O.upd (o':=.cells (c.toList.take o++ys.map enc++c.toList.drop (o+ys.length)).toArray T' (0,0)) (w':=w.setRow b (c.toList.take o++ys.map enc++c.toList.drop (o+ys.length)).toArray) rfl rfl rfl rfl (by simp[World.setRow]) (λq V=>Fw.setRow_other V) (setRow_heap w b _ _ T' _ O.pto);refine W.weaken λq V=>.inr ⟨b,_,rfl,V,by simp; omega,?_,?_⟩
   . show _=cap*1;simp; omega
   . intro i x hx;refine⟨_,rfl,λj v h=>?_⟩
     have a3:j=0:=by
      rcases j with _ | j
      . rfl
      . simp at h
     subst a3;have hv:v=enc x:=by simpa using h.symm
     subst hv;show(List.toArray _)[i*1+0]? = _;rw[AaM,YH,AaH]
     have old:∀ q z,xs[q]? = some z->c.toList[q]? = some (enc z):=λq z hz=>by have⟨cs,g1,g2⟩:=h5 q z hz;have:=g2 0 (enc z) (by rw[show cs=[enc z] from g1]; rfl);have e:q*(EW 1 (λx=>[enc x]) Z).sz+0=q:=AaM q;rw[e] at this;rw[AnH]; exact this
     exact AvB (by have e:c.toList.length=c.size:=rfl; omega) old hf hx
theorem Ops.copyO {enc:α->Value} {O:∀ x,([enc x]:List Value).length=1∧KE [enc x]=true} {i:TypeInfo} {b o:Nat} (ys:List α) (hu:P.underlying dT=some (.slice eT)) (hi:P.info? eT=some i) (U:i.size=1) (a4:tys = #[dT,sT])
  (hA:At m (OwnSl (EW 1 (λx=>[enc x]) O) T' (some ⟨b,0,none⟩) cap xs) m' (OwnSl (EW 1 (λx=>[enc x]) O) T' (some ⟨b,0,none⟩) cap (xs.take o++ys++xs.drop (o+ys.length))))
  (hx:ev E x=some (.slice (some ⟨b,o,none⟩) dl dc)) (hy:ev E y=some (.slice sp sl sc)) (hn:ys.length=Nat.min sl dl) (a3:o+ys.length<=xs.length)
  (a2:ys≠[]->∃ ad,sp=some ad∧∀ w,Sym w0 M I0 I m w->∀ (j:Nat) v,(ys.map enc)[j]? = some v->w.cell? (ad.add j)=some v)
  (hb:Nat.blt d n.sz=true) (hf:fresh E d=true) (k:Ops P ops l n ((d,goInt ys.length) :: E) (Sym w0 M I0 I m') Q) :
  Ops P ops (⟨some d,.call ⟨.builtin .copy,#[x,y],tys⟩,ty,pos,af,none⟩ :: l) n E (Sym w0 M I0 I m) Q:=
 Ops.valx (λv w'=>v=goInt ys.length∧Sym w0 M I0 I m' w') rfl rfl
  (λc w V h=>by
   subst a4;have e:(#[x,y].map c.eval) = #[.slice (some ⟨b,o,none⟩) dl dc,.slice sp sl sc]:=by simp[V.eval hx,V.eval hy]
   have D:(P.info? eT).map (·.size)=some 1:=by rw[hi]; simp[U]
   have⟨_,h2,J⟩:=hA.del;have⟨a6,t,g1,g2,g3⟩:=OwnSl.copy (ys:=ys) (h.del h2) a3;by_cases h0:ys=[]
   . subst h0;have W:=run_copy_none (P:=P) w dT sT ty eT (some ⟨b,o,none⟩) sp dl dc sl sc hu D (by simpa using hn.symm);refine⟨_,w,?_,rfl,?_⟩
     . simp only[execOp,resolve,e,Sem.run_bind,Sem.run_pure,Result.andThen_ok,invoke,builtin,W]; rfl
     . have a5:xs.take o++[]++xs.drop (o+([]:List α).length)=xs:=by simp
       rw[a5] at J;exact(h.del h2).undel J
   . obtain⟨ad,rfl,hc⟩:=a2 h0
     have W:=run_copy_row (P:=P) w dT sT ty eT b o dl dc ad sl sc a6 t (ys.map enc) hu D g1 (by simpa using hn) (λj v hj=>hc w h j v hj) (by simpa using g2) (λv Z=>by obtain⟨z,_,rfl⟩:=List.mem_map.1 Z;exact TJ (O z).2 _ (by simp))
     refine⟨_,_,?_,rfl,g3.undel J⟩;have el:(ys.map enc).length=ys.length:=by simp
     rw[el] at W;simp only[execOp,resolve,e,Sem.run_bind,Sem.run_pure,Result.andThen_ok,invoke,builtin,W]) hb hf
  (λv c w V ⟨Z,U⟩=>by subst Z; exact k c w V U)
def XC (xs:List α) (o:Nat) (ys:List α):List α:=xs.take o++ys.take (xs.length - o)++xs.drop (o+min ys.length (xs.length - o))
theorem dM {o:Nat} (h:o<=xs.length):(XC xs o ys).length=xs.length:=by unfold XC;simp only[fC,QX,Ag2];omega
theorem kO (b off j:Nat):(⟨b,off,none⟩:Addr).add j=⟨b,off+j,none⟩:=by unfold Addr.add; split <;> simp_all
theorem Ops.copyI {enc:α->Value} {V:∀ x,([enc x]:List Value).length=1∧KE [enc x]=true} {i:TypeInfo} {b cs:Nat} (hu:P.underlying dT=some (.slice eT)) (hi:P.info? eT=some i) (hs:i.size=1) (a6:tys = #[dT,sT])
   (U:At m (OwnSl (EW 1 (λx=>[enc x]) V) T' (some ⟨b,0,none⟩) cap xs) m' (OwnSl (EW 1 (λx=>[enc x]) V) T' (some ⟨b,0,none⟩) cap (XC xs 0 ys)))
   (W:RepSl (EW 1 (λx=>[enc x]) V) I sp cs ys) (hx:ev E x=some (.slice (some ⟨b,0,none⟩) dl dc)) (a3:dl=xs.length) (hy:ev E y=some (.slice sp sl sc)) (a2:sl=ys.length)
   (hb:Nat.blt d n.sz=true) (hf:fresh E d=true) (k:Ops P ops l n ((d,.int .i64 ((min ys.length xs.length:Nat):Int)) :: E) (Sym w0 M I0 I m') Q) :
   Ops P ops (⟨some d,.call ⟨.builtin .copy,#[x,y],tys⟩,ty,pos,af,none⟩ :: l) n E (Sym w0 M I0 I m) Q:=by
 subst a3 a2;have J:(ys.take xs.length).length=min ys.length xs.length:=by rw[QX,Nat.min_comm]
 have e2:XC xs 0 ys=xs.take 0++ys.take xs.length++xs.drop (0+(ys.take xs.length).length):=by rw[J]; rfl
 rw[e2] at U;refine Ops.copyO (ys.take xs.length) hu hi hs a6 U hx hy J (by rw[J]; omega) (λa5=>?_) hb hf (by rw[J]; exact k)
 obtain⟨z,hz⟩:∃ z,ys[0]? = some z:=by
   cases ys with
   | nil=>simp at a5
   | cons z r=>exact⟨z,rfl⟩
 have⟨_,_,_,O,_,_⟩:=W.2 0 z hz;refine⟨_,O,λ_ hw j v Z=>?_⟩;rw[AaK] at Z;obtain⟨q,D,rfl⟩:=Option.map_eq_some_iff.1 Z;rw[rF] at D;split at D
 . have⟨_,_,a4,h,f2,f3⟩:=W.2 j q D;rw[O] at h;cases h;have:=f2.cell hw (j:=0) (v:=enc q) (by rw[show a4=[enc q] from f3]; rfl);rw[kO];simpa[EW] using this
 . cases D
theorem OwnSl.cellAt {enc:α->Value} {U:∀ x,([enc x]:List Value).length=1∧KE [enc x]=true} {b j:Nat} {r:List HA} {z:α} (h:Sym w0 M I0 I (OwnSl (EW 1 (λx=>[enc x]) U) T' (some ⟨b,0,none⟩) cap xs :: r) w) (Z:xs[j]? = some z):xs.length<=cap∧w.cell? ⟨b,j,none⟩=some (enc z):=by
 have⟨W,J,V,k,⟨k1,k2,hd',hl1,hl2,ha,hs'⟩,hk,hdj,hm⟩:=h;rcases ha with⟨D,_⟩ | ⟨b',c,D,h2,h3,h4,h5⟩
 . cases D
 . cases D;have O:Sym w0 M I0 I (Fw.pto b (.cells c T' (0,0)) :: r) w:=⟨W,J,V,k,⟨k1,k2,hd',hl1,hl2,h2,hs'⟩,hk,hdj,hm⟩;refine⟨h3,?_⟩;have⟨cs,g1,g2⟩:=h5 j z Z;have:=g2 0 (enc z) (by rw[show cs=[enc z] from g1]; rfl);have e:j*(EW 1 (λx=>[enc x]) U).sz+0=j:=AaM j;rw[e] at this;simp only[World.cell?,O.pto];exact this
theorem OwnSl.capLe {El:EB α} {b:Nat} {r:List HA} (h:Sym w0 M I0 I (OwnSl El T' (some ⟨b,0,none⟩) cap xs :: r) w):xs.length<=cap:=by
 have⟨_,D,_⟩:=h.get;rcases D with⟨O,_⟩ | ⟨_,_,_,_,J,_⟩
 . cases O
 . exact J
theorem Ops.copyS' {enc:α->Value} {Z:∀ x,([enc x]:List Value).length=1∧KE [enc x]=true} {i:TypeInfo} {b L K H:Nat} (hu:P.underlying dT=some (.slice eT)) (hi:P.info? eT=some i) (hs:i.size=1) (a3:tys = #[dT,sT])
  (W:At m (OwnSl (EW 1 (λx=>[enc x]) Z) T' (some ⟨b,0,none⟩) cap xs) m' (OwnSl (EW 1 (λx=>[enc x]) Z) T' (some ⟨b,0,none⟩) cap (XC xs L (xs.take K))))
  (hx:ev E x=some (.slice (TM (some ⟨b,0,none⟩) cap L 1) (H - L) dc)) (hH:H=xs.length) (hL:L<=xs.length) (hK:K<=xs.length) (hy:ev E y=some (.slice (TM (some ⟨b,0,none⟩) cap 0 1) (K - 0) sc))
  (hb:Nat.blt d n.sz=true) (hf:fresh E d=true) (k:Ops P ops l n ((d,.int .i64 ((min K (xs.length - L):Nat):Int)) :: E) (Sym w0 M I0 I m') Q) :
  Ops P ops (⟨some d,.call ⟨.builtin .copy,#[x,y],tys⟩,ty,pos,af,none⟩ :: l) n E (Sym w0 M I0 I m) Q:=by
 subst hH;intro c w ho U;have⟨_,V,_⟩:=W.del;have hc:=OwnSl.capLe (U.del V);obtain⟨h,D⟩:∃ h,h=(xs.take K).take (xs.length - L):=⟨_,rfl⟩;have J:h.length=min K (xs.length - L):=by rw[D,QX,QX]; omega
 have O:XC xs L (xs.take K)=xs.take L++h++xs.drop (L+h.length):=by rw[J,D]; unfold XC; rw[QX,Ao4 hK]
 rw[dI] at hy
 obtain⟨o,hv,a5,a4,a2⟩:∃ o,TM (some ⟨b,0,none⟩) cap L 1=some ⟨b,o,none⟩∧o<=L∧o+h.length<=xs.length∧XC xs L (xs.take K)=xs.take o++h++xs.drop (o+h.length):=by
  unfold TM;by_cases e:cap=L
  . refine⟨0,if_pos e,by omega,by omega,?_⟩;have:h=[]:=ArT (by omega);rw[O,this];simp
  . refine⟨L,?_,by omega,by omega,O⟩;rw[if_neg e];simp[kO]
 rw[hv] at hx;rw[a2] at W;refine Ops.copyO h hu hi hs a3 W hx hy (by rw[Ad3]; exact J) a4 (λ_=>⟨_,rfl,λw hw j _ hj=>?_⟩) hb hf (by rw[J]; exact k) c w ho U;rw[AaK] at hj;obtain⟨_,hq,rfl⟩:=Option.map_eq_some_iff.1 hj;rw[kO,aT];refine(OwnSl.cellAt (hw.del V) (j:=j) ?_).2;rw[D] at hq;grind
theorem Ops.copy0 {i:TypeInfo} {O:Option Addr} {S:World->Prop} (Z:P.underlying dT=some (.slice eT)) (hi:P.info? eT=some i) (U:i.size=1) (h:tys = #[dT,sT])
  (hx:ev E x=some (.slice O dl dc)) (hy:ev E y=some (.slice sp sl sc)) (h0:Nat.min sl dl=0) (W:Nat.blt d n.sz=true) (hf:fresh E d=true) (k:Ops P ops l n ((d,goInt 0) :: E) S Q) :
  Ops P ops (⟨some d,.call ⟨.builtin .copy,#[x,y],tys⟩,ty,pos,af,none⟩ :: l) n E S Q:=
 Ops.valx (λv w'=>v=goInt 0∧S w') rfl rfl
  (λc w D J=>by
   subst h;have e:(#[x,y].map c.eval) = #[.slice O dl dc,.slice sp sl sc]:=by simp[D.eval hx,D.eval hy]
   have hr:=run_copy_none (P:=P) w dT sT ty eT O sp dl dc sl sc Z (by rw[hi]; simp[U]) h0;refine⟨_,w,?_,rfl,J⟩;simp only[execOp,resolve,e,Sem.run_bind,Sem.run_pure,Result.andThen_ok,invoke,builtin,hr]) W hf
  (λv c w D ⟨V,U⟩=>by subst V; exact k c w D U)
theorem Ops.copyS {enc:α->Value} {he:∀ x,([enc x]:List Value).length=1∧KE [enc x]=true} {i:TypeInfo} {L K H:Nat} {a:Option Addr} (hu:P.underlying dT=some (.slice eT)) (hi:P.info? eT=some i) (hs:i.size=1) (h:tys = #[dT,sT])
   (Z:At m (OwnSl (EW 1 (λx=>[enc x]) he) T' a cap xs) m' (OwnSl (EW 1 (λx=>[enc x]) he) T' a cap (XC xs L (xs.take K))))
   (hx:ev E x=some (.slice (TM a cap L 1) (H - L) dc)) (O:H=xs.length) (hL:L<=xs.length) (V:K<=xs.length) (hy:ev E y=some (.slice (TM a cap 0 1) (K - 0) sc))
   (hb:Nat.blt d n.sz=true) (hf:fresh E d=true) (k:Ops P ops l n ((d,.int .i64 ((min K (xs.length - L):Nat):Int)) :: E) (Sym w0 M I0 I m') Q) :
   Ops P ops (⟨some d,.call ⟨.builtin .copy,#[x,y],tys⟩,ty,pos,af,none⟩ :: l) n E (Sym w0 M I0 I m) Q:=by
 intro c w W D;have⟨_,J,h3⟩:=Z.del;have⟨_,hq,_⟩:=(D.del J).get;rcases hq with⟨U,a2,hc⟩ | ⟨b,_,U,_⟩
 . subst U a2;have a4:L=0:=Nat.le_zero.1 hL;have a3:K=0:=Nat.le_zero.1 V;subst a4 a3 O;exact Ops.copy0 hu hi hs h hx hy rfl hb hf k c w W ((D.del J).undel h3)
 . subst U;exact Ops.copyS' hu hi hs h Z hx O hL V hy hb hf k c w W D
theorem AoS {a:Option Addr} (h:xs≠[]->∃ b,a=some ⟨b,0,none⟩) (D:a.isNone=true):xs=[]:=by refine AfV λJ=>?_;obtain⟨b,rfl⟩:=h J;cases D
theorem Ops.ownF {El:EB α} {T:TypeId} {a:Option Addr} (U:Del m (OwnSl El T a cap xs) m') (k:(xs≠[]->∃ b,a=some ⟨b,0,none⟩)->Ops P ops l n E (Sym w0 M I0 I m) Q):Ops P ops l n E (Sym w0 M I0 I m) Q:=by
 intro c w O D;have⟨_,J,_⟩:=(D.del U).get;refine k (λh=>?_) c w O D;rcases J with⟨_,V,_⟩ | ⟨b,_,W,_⟩
 . exact absurd V h
 . exact⟨b,W⟩
theorem Src.own {enc:α->Value} {h:∀ x,([enc x]:List Value).length=1∧KE [enc x]=true} {a:Option Addr} {k:Nat} (Z:Del m (OwnSl (EW 1 (λx=>[enc x]) h) T' a cap xs) m') (hk:k=xs.length):Src P (EW 1 (λx=>[enc x]) h) I (Sym w0 M I0 I m) (.slice a k cap) xs:=by
 subst hk
 have on:∀ J:List α,KE (J.map enc)=true:=λJ=>by
   induction J with
   | nil=>rfl
   | cons z J ih=>exact pT (h z).2 ih
 refine⟨⟨_,_,_,rfl,rfl⟩,xs.map enc,⟨by simp[EW],λi y hy=>⟨[enc y],rfl,λj v D=>?_⟩,on xs⟩,λ_ W w' V=>?_⟩
 . have a2:j=0:=by
     rcases j with _ | j
     . rfl
     . simp at D
   subst a2;have e:i*(EW 1 (λx=>[enc x]) h).sz+0=i:=AaM i;rw[e,AaK,hy];exact D
 . have⟨_,hq,_⟩:=(W.del Z).get;rcases hq with⟨U,h2,_⟩ | ⟨b,_,U,_⟩
   . subst U h2; simp[Builtin.firstCells]
   . subst U;simp only[Builtin.firstCells];have el:(EW 1 (λx=>[enc x]) h).sz*xs.length=(xs.map enc).length:=by simp[EW]
     have O:xs.length*(EW 1 (λx=>[enc x]) h).sz=(xs.map enc).length:=by simp[EW]
     first | rw[O] | rw[el]
     refine run_loadCells_list w' _ (xs.map enc) λj v D=>?_;rw[AaK] at D;obtain⟨z,hz,rfl⟩:=Option.map_eq_some_iff.1 D;have:=(OwnSl.cellAt (W.del Z) hz).2;rw[kO,aT];simpa only[World.cell?,V] using this
end Go.Fw
