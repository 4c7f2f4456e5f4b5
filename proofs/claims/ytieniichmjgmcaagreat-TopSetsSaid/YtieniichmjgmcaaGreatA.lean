import Derived.Below
import Derived.Tactics
import Derived.Laws.NewBlocks
import Derived.Scope
import Derived.OrdersIn
import Derived.TacticsIn
import Derived.Laws.Entries
import Derived.Laws.StructEq
import Derived.Laws.CopyRow
import Derived.RangeFuncLeaves
import Derived.RangeFuncRecord
import Derived.MapKept
import Derived.Maps.RangeRun
import Derived.ChangeKeysEq
set_option linter.defProp false
set_option linter.unusedSectionVars false
set_option linter.unusedSimpArgs false
set_option linter.unusedVariables false
namespace Go.Fw
open Go Go.RowKit
section
variable {id:Nat} {σ:Type}
def cZ:=@List.take_succ_eq_append_getElem
def SH:=@Int.toNat_natCast
def RY:=@List.getElem_mem
def QX:=@List.length_set
def jY:=@List.mem_cons_of_mem
def dA:=@List.map_append
def yQ:=@List.getElem?_eq_getElem
def nL:=@List.append_assoc
def nM:=@List.take_length
def Y3:=@Nat.le_refl
def W9:=@Nat.mul_le_mul_right
def eX:=@List.getD_eq_getElem?_getD
def QY:=@List.length_take
def WA:=@List.getElem_of_mem
def QZ:=@Option.some.inj
def jZ:=@Array.getD_eq_getD_getElem?
def NM:=@List.map_cons
def ML:=@Nat.mul_zero
def kA:=@List.getElem?_append_left
def SI:=@List.mem_cons
def aL:=@Nat.eq_zero_or_pos
def gS:=@List.Pairwise.filter
def aM:=@Bool.and_eq_true
def ZX:=@List.range_succ
def ZY:=@List.length_map
def gT:=@List.filter_append
def wW:=@List.getElem?_append_right
def aN:=@List.foldl_cons
def gU:=@List.pairwise_map
def kB:=@List.mem_singleton
def kC:=@List.length_append
def WB:=@Nat.add_mul
def ZZ:=@Nat.lt_or_ge
def wX:=@List.length_filter_le
def kD:=@List.append_nil
def nR:=@List.length_cons
def nS:=@List.cons_append
def AdN:=@List.perm_ext_iff_of_nodup
def nT:=@List.mem_append
def eY:=@Nat.add_zero
def wY:=@List.map_congr_left
def sR:=@List.Pairwise.imp
def AaS:=@List.getElem?_set_ne
def gV:=@Nat.le_trans
def gW:=@List.mem_map
def wZ:=@List.getElem?_take
def AgZ:=@Classical.byContradiction
def Ah0:=@Array.getElem?_eq_getElem
def AaT:=@List.mem_map_of_mem
def AdO:=@List.getElem?_toArray
def AdP:=@List.getElem?_eq_none
def sS:=@List.nodup_cons
def AaU:=@Bool.false_eq_true
def xA:=@Option.getD_some
def Am9:=@Int.tdiv_eq_ediv_of_nonneg
def nU:=@Nat.zero_add
def AaV:=@List.getElem?_set
def AmA:=@List.pairwise_iff_getElem
def Ah1:=@Nat.eq_of_beq_eq_true
def AdQ:=@List.pairwise_cons
def AoN:=@Array.getElem?_setIfInBounds
def AdR:=@Option.some.injEq
def AdS:=@List.foldl_append
def Ah2:=@Array.length_toList
def AmB:=@List.getElem?_set_self
def AoO:=@Int.tmod_eq_emod_of_nonneg
def AdT:=@List.length_drop
def AmC:=@List.perm_append_comm
def AoP:=@List.drop_eq_getElem_cons
def AdU:=@Bool.or_eq_true
def Ah3:=@List.ext_getElem?
def Ah4:=@List.getElem_take
def AoQ:=@List.getElem?_cons_zero
def AmD:=@Int.toNat_of_nonneg
def xB:=@Nat.one_mul
def Ah5:=@Option.map_some
def Ah6:=@Nat.min_eq_left
def AoR:=@List.Perm.append_left
def AsW:=@List.exists_cons_of_ne_nil
def AsX:=@Int.fdiv_eq_ediv_of_nonneg
def Ah7:=@List.Perm.cons
def AmE:=@List.perm_middle
def AdV:=@List.map_map
def AsY:=@List.Pairwise.imp_of_mem
def AdW:=@Nat.mul_comm
def AsZ:=@List.eraseIdx_cons_succ
def AmF:=@List.mem_filter
def AoS:=@List.getElem?_drop
def AvU:=@List.eq_nil_of_length_eq_zero
def At0:=@List.length_replicate
def At1:=@List.take_append_drop
def At2:=@List.filterMap_append
def At3:=@Array.getElem?_toList
def Ah8:=@Int.lt_or_le
def At4:=@List.length_singleton
def AoT:=@Nat.div_eq_of_lt
def At5:=@List.pairwise_append
def At6:=@List.mem_of_getElem?
def AoU:=@List.any_eq_true
def AoV:=@List.filter_cons
def AoW:=@List.nodup_iff_pairwise_ne
def yR:=@Bool.true_and
def yS:=@Prod.mk.injEq
def yT:=@Nat.add_assoc
def sU:=@Nat.zero_le
def sV:=@Int.le_refl
def AjI:=@Nat.testBit_two_pow
def AdX:=@List.cons.injEq
def AdY:=@List.nil_append
def AjJ:=@Nat.lt_of_lt_of_le
def yU:=@Classical.em
def AjK:=@Int.emod_lt_of_pos
def AjL:=@Int.natCast_nonneg
def AjM:=@Array.foldl_toList
def yV:=@Nat.add_comm
def yW:=@Int.le_of_lt
def AoX:=@List.getElem?_cons_succ
def AjN:=@List.getElem_drop
def AoY:=@List.take_of_length_le
def AoZ:=@List.pairwise_lt_range
def Ap0:=@Array.getElem?_modify
def AdZ:=@Int.le_trans
def AjO:=@Nat.mul_add_div
def Ae0:=@Nat.zero_mul
def AjP:=@Int.emod_nonneg
def AjQ:=@Option.map_none
def AjR:=@Int.ediv_nonneg
def Av7:=@Int.mul_le_mul_of_nonneg_left
def Ap1:=@Array.toList_zipIdx
def AjS:=@Int.mul_le_mul
def AjT:=@List.foldl_map
def AjU:=@List.mem_range
def AjV:=@Int.mul_nonneg
def Ap2:=@List.set_cons_succ
def Av8:=@Array.extract_eq_self_of_le
def Av9:=@Nat.mod_two_eq_zero_or_one
def AvA:=@Array.getElem?_append_left
def Ap3:=@List.size_toArray
def Ap4:=@Nat.or_lt_two_pow
def Ae1:=@Nat.mod_lt
def AvB:=@Array.mapM_eq_mapM_toList
def AjW:=@Nat.sub_zero
def Ap5:=@Option.bind_some
def AjX:=@List.map_nil
def Ap6:=@Nat.mod_eq_of_lt
def Ap7:=@List.not_mem_nil
def Ap8:=@Int.ediv_le_self
def AjY:=@Nat.succ_mul
def AjZ:=@Nat.sub_self
def Ap9:=@Int.natCast_mul
def ApA:=@Nat.div_add_mod
def ApB:=@List.filter_map
def ApC:=@Int.natCast_add
def ApD:=@List.Perm.nodup
def Ak0:=@Int.pow_pos
def Ak1:=@Nat.le_succ
def ApE:=@List.mapM_cons
def ApF:=@Nat.mul_le_mul
def ApG:=@List.nodup_nil
def ApH:=@List.foldl_nil
/-! ### Sparse frames -/
abbrev DG:=List (Nat×Value)
def look:DG->Nat->Option Value
 | [],_=>none
 | p :: E,t=>bif Nat.beq p.1 t then some p.2 else look E t
def fresh:DG->Nat->Bool
 | [],_=>true
 | p :: E,t=>bif Nat.beq p.1 t then false else fresh E t
def EnvOk:DG->Act->Prop
 | [],_=>True
 | p :: E,a=>a.tmps[p.1]? = some p.2∧EnvOk E a
structure FrK where
 sz:Nat
 marks:List Nat
 round:Option Nat
def mkM (r:Nat):Deferred:={ target:=.collected r,args:=#[] }
abbrev FrK.defs (n:FrK):List Deferred:=n.marks.map mkM
def WC (n:FrK):Fence:={ fn:=λ_=>True,depth:=none,alive:=false,round:=n.round }
structure Ok (n:FrK) (E:DG) (a:Act):Prop where
 size:a.tmps.size=n.sz
 defers:a.defers=n.defs
 env:EnvOk E a
def ev (E:DG):Operand->Option Value
 | .tmp t=>look E t
 | .const c=>some c
 | .global g=>some (.pointer (some ⟨g,0,none⟩))
 | .func f=>some (.func (.func f) #[] #[])
theorem EnvOk.look {E:DG} {a:Act} (h:EnvOk E a) {t:Nat} {v:Value} (d:look E t=some v):a.tmps[t]? = some v:=by
 induction E with
 | nil=>simp[Fw.look] at d
 | cons p E J=>
  have⟨_,_⟩:=h;simp only[Fw.look] at d
  cases D:Nat.beq p.1 t with
  | true=>simp_all
  | false=>grind
theorem Ok.eval {n:FrK} {E:DG} {a:Act} (h:Ok n E a) {x:Operand} {v:Value} (d:ev E x=some v):a.eval x=v:=by
 cases x with
 | tmp t=>
  have:=h.env.look d;simp only[Act.eval,jZ,this,xA]
 | const c=>exact QZ d
 | global g=>exact QZ d
 | func f=>exact QZ d
theorem EnvOk.put {E:DG} {a:Act} (h:EnvOk E a) {d:Nat} (D:fresh E d=true) (v:Value):EnvOk E (a.put (some d) v):=by
 induction E with
 | nil=>trivial
 | cons p E V=>
  have⟨O,U⟩:=h;simp only[fresh] at D
  cases W:Nat.beq p.1 d with
  | true=>rw[W] at D; simp at D
  | false=>
   rw[W] at D;refine⟨?_,V U D⟩;have J:¬d=p.1:=λe=>by rw[e,Nat.beq_refl] at W; exact absurd W (by simp)
   simp only[Act.put,AoN,if_neg J,O]
theorem Ok.put {n:FrK} {E:DG} {a:Act} (h:Ok n E a) {d:Nat} (J:Nat.blt d n.sz=true) (D:fresh E d=true) (v:Value):Ok n ((d,v) :: E) (a.put (some d) v):=by
 refine⟨by simp[Act.put,h.size],by simp[Act.put,h.defers],?_,h.env.put D v⟩;have:d<a.tmps.size:=by rw[h.size]; simp_all
 simp[Act.put,this]
theorem EnvOk.defers {E:DG} {a:Act} (h:EnvOk E a) (d:List Deferred):EnvOk E { a with defers:=d }:=by
 induction E with
 | nil=>trivial
 | cons p E D=>exact⟨h.1,D h.2⟩
def Sub:DG->DG->Prop
 | [],_=>True
 | p :: E',E=>look E p.1=some p.2∧Sub E' E
theorem Ok.sub {n:FrK} {E E':DG} {a:Act} (h:Ok n E a) (d:Sub E' E):Ok n E' a:=by
 refine⟨h.size,h.defers,?_⟩
 induction E' with
 | nil=>trivial
 | cons p E' D=>exact⟨h.env.look d.1,D d.2⟩
abbrev IH:=Nat->Option Obj
def IH.le (I J:IH):Prop:=∀ b o,I b=some o->J b=some o
theorem IH.le.refl (I:IH):I.le I:=λ_ _ h=>h
theorem IH.le.trans {I J K:IH} (h:I.le J) (k:J.le K):I.le K:=λb o x=>k b o (h b o x)
def hp (w:World):IH:=λb=>w.heap[b]?
def IH.disj (I J:IH):Prop:=∀ b,I b=none∨J b=none
theorem IH.disj.mono {I J D d:IH} (h:I.disj J) (hi:D.le I) (O:d.le J):D.disj d:=λb=>by
 rcases h b with h | h
 . left; cases h':D b with
   | none=>rfl
   | some o=>rw[hi b o h'] at h; cases h
 . right; cases h':d b with
   | none=>rfl
   | some o=>rw[O b o h'] at h; cases h
open Classical in
noncomputable def IH.union (I J:IH):IH:=λb=>match I b with | some o=>some o | none=>J b
theorem IH.le_union_left (I J:IH):I.le (I.union J):=λ_ _ h=>by simp[IH.union,h]
theorem IH.le_union_right {I J:IH} (D:I.disj J):J.le (I.union J):=λb _ h=>by
 rcases D b with d | d
 . simp[IH.union,d,h]
 . rw[d] at h; cases h
theorem IH.union_le {I J K:IH} (h:I.le K) (k:J.le K):(I.union J).le K:=λb o x=>by
 simp only[IH.union] at x
 cases hi:I b with
 | some p=>rw[hi] at x; exact h b o (by rw[hi]; exact x)
 | none=>rw[hi] at x; exact k b o x
theorem IH.union_none {I J:IH} {b:Nat} (h:I.union J b≠none):I b≠none∨J b≠none:=by simp only[IH.union] at h;grind
structure HA where
 holds:IH→IH→Prop
 mono:∀ {I J h k:IH},I.le J→h.le k→holds I h→holds J k
def NH:List HA->IH->IH->Prop
 | [],_,_=>True
 | A :: l,I,h=>∃ d D,d.disj D∧d.le h∧D.le h∧A.holds I d∧NH l I D
theorem LF {l:List HA} {I J h k:IH} (U:I.le J) (V:h.le k) (Z:NH l I h):NH l J k:=by
 cases l with
 | nil=>trivial
 | cons A l=>
  obtain ⟨h1,O,hd,d,D,W,Z⟩:=Z
  refine ⟨h1,O,hd,d.trans V,D.trans V,A.mono U (IH.le.refl _) W,?_⟩
  clear W d D hd V
  induction l generalizing O with
  | nil=>trivial
  | cons B l ih=>
   obtain ⟨h3,h4,a5,a2,a4,hb,a3⟩:=Z
   exact ⟨h3,h4,a5,a2,a4,B.mono U (IH.le.refl _) hb,ih _ a3⟩
theorem KM {l m:List HA} {I h:IH}:NH (l++m) I h↔∃ V U,V.disj U∧V.le h∧U.le h∧NH l I V∧NH m I U:=by
 induction l generalizing h with
 | nil=>
  constructor
  . intro O; exact⟨λ_=>none,h,(λ_=>.inl rfl),(λ_ _ x=>nomatch x),IH.le.refl _,trivial,O⟩
  . rintro⟨V,U,W,a2,D,_,O⟩; exact LF (IH.le.refl _) D O
 | cons A l ih=>
  constructor
  . rintro⟨V,U,W,a2,D,ha,O⟩;have⟨h3,h4,a3,d,J,a4,a5⟩:=ih.1 O;refine⟨V.union h3,h4,?_,IH.union_le a2 (d.trans D),J.trans D,⟨V,h3,W.mono (IH.le.refl _) d,IH.le_union_left _ _,IH.le_union_right (W.mono (IH.le.refl _) d),ha,a4⟩,a5⟩;intro b;rcases a3 b with h | h
    . rcases(W.mono (IH.le.refl _) J) b with Z | Z
      . left; simp[IH.union,h,Z]
      . exact .inr Z
    . exact .inr h
  . rintro⟨V,U,W,a2,D,⟨h3,h4,a3,d,J,ha,O⟩,hm⟩;refine⟨h3,h4.union U,?_,d.trans a2,IH.union_le (J.trans a2) D,ha,ih.2 ⟨h4,U,W.mono J (IH.le.refl _),IH.le_union_left _ _,IH.le_union_right (W.mono J (IH.le.refl _)),O,hm⟩⟩;intro b;rcases a3 b with h | h
    . exact .inl h
    . rcases(W.mono d (IH.le.refl U)) b with Z | Z
      . exact .inl Z
      . right; simp[IH.union,h,Z]
structure At7 (w0:World) (M:Nat→Prop) (w:World):Prop where
 os:w.os=w0.os
 tape:w.tape=w0.tape
 output:w.output=w0.output
 drawn:w0.drawn≤w.drawn
 size:w0.heap.size≤w.heap.size
 block:∀ b,b<w0.heap.size→¬M b→w.heap[b]? = w0.heap[b]?
structure Sym (w0:World) (M:Nat→Prop) (I0 I:IH) (l:List HA) (w:World):Prop where
 base:At7 w0 M w
 imm:I.le (hp w)
 new:∀ b,I b≠none→I0 b≠none∨M b∨w0.heap.size≤b
 own:∃ h,NH l I h∧h.le (hp w)∧I.disj h∧∀ b,h b≠none→M b∨w0.heap.size≤b
variable {w0 w:World} {M:Nat→Prop} {I0 I:IH} {l:List HA}
theorem TD {b:Nat} {o:Obj} (h:hp w b=some o):b<w.heap.size:=by grind[hp]
theorem Ah9 {h:IH} (D:h.le (hp w)) {b:Nat} (d:h b≠none):b<w.heap.size:=by
 cases e:h b with
 | none=>exact absurd e d
 | some o=>exact TD (D b o e)
def pto (b:Nat) (o:Obj):HA where
 holds _ h:=h b=some o
 mono:=λ_ hh h=>hh _ _ h
def GH (b:Nat) (o:Obj):IH:=λk=>if k=b then some o else none
theorem Sym.alloc (h:Sym w0 M I0 I l w) (o:Obj):Sym w0 M I0 I (pto w.heap.size o :: l) (w.alloc o):=by
 have⟨O,hi,hn,k,hs,hk,hd,Z⟩:=h
 have U:∀ (J:IH),J.le (hp w)->J.le (hp (w.alloc o)):=λJ hJ b p e=>by have D:=hJ b p e;have:=TD D;show(w.alloc o).heap[b]? = _;rw[Below.heap_alloc _ _ _ this]; exact D
 refine⟨⟨O.os,O.tape,O.output,O.drawn,gV O.size (by simp),λb W h2=>?_⟩,U I hi,hn,(GH w.heap.size o).union k,⟨GH w.heap.size o,k,?_,IH.le_union_left _ _,IH.le_union_right ?_,by simp[pto,GH],hs⟩,?_,?_,?_⟩
 . rw[Below.heap_alloc _ _ _ (AjJ W O.size)]; exact O.block b W h2
 . intro b;by_cases e:b=w.heap.size
   . right; subst e
     cases D:k w.heap.size with
     | none=>rfl
     | some p=>have:=TD (hk _ _ D); omega
   . left; simp[GH,e]
 . intro b;by_cases e:b=w.heap.size
   . right; subst e
     cases D:k w.heap.size with
     | none=>rfl
     | some p=>have:=TD (hk _ _ D); omega
   . left; simp[GH,e]
 . refine IH.union_le (λb p e=>?_) (U k hk);simp only[GH] at e;split at e
   . rename_i d; subst d; cases e;show(w.heap.push o)[w.heap.size]? = _;simp
   . cases e
 . intro b;by_cases e:b=w.heap.size
   . left; subst e
     cases D:I w.heap.size with
     | none=>rfl
     | some p=>have:=TD (hi _ _ D); omega
   . rcases hd b with d | d
     . exact .inl d
     . right; simp[IH.union,GH,e,d]
 . intro b V;rcases IH.union_none V with d | d
   . simp only[GH] at d;split at d
     . rename_i e; subst e; exact .inr O.size
     . exact absurd rfl d
   . exact Z b d
theorem Sym.drew (h:Sym w0 M I0 I l w) (n:Nat) (d:w.drawn<=n):Sym w0 M I0 I l { w with drawn:=n }:=
 ⟨⟨h.base.os,h.base.tape,h.base.output,gV h.base.drawn d,h.base.size,h.base.block⟩,h.imm,h.new,h.own⟩
inductive At:List HA→HA→List HA→HA→Prop
 | z {A B:HA} {l:List HA}:At (A :: l) A (B :: l) B
 | s {A B C:HA} {l m:List HA}:At l A m B→At (C :: l) A (C :: m) B
inductive Del:List HA→HA→List HA→Prop
 | z {A:HA} {l:List HA}:Del (A :: l) A l
 | s {A C:HA} {l m:List HA}:Del l A m→Del (C :: l) A (C :: m)
theorem kE {l m:List HA} {A:HA} (V:Del l A m):∀ {h:IH},NH l I h->∃ J W,J.disj W∧J.le h∧W.le h∧A.holds I J∧NH m I W:=by
 induction V with
 | z=>exact λU=>U
 | s _ ih=>
  rintro h ⟨J,W,V,a4,a2,hc,U⟩;have⟨h3,h4,a3,O,D,ha,hm⟩:=ih U;refine⟨h3,J.union h4,?_,O.trans a2,IH.union_le a4 (D.trans a2),ha,J,h4,V.mono (IH.le.refl _) D,IH.le_union_left _ _,IH.le_union_right (V.mono (IH.le.refl _) D),hc,hm⟩;intro b;rcases V b with Z | Z
  . rcases a3 b with d | d
    . exact .inl d
    . right; simp[IH.union,Z,d]
  . left
    cases e:h3 b with
    | none=>rfl
    | some o=>rw[O b o e] at Z; cases Z
theorem At.del {l m:List HA} {A B:HA} (h:At l A m B):∃ r,Del l A r∧Del m B r:=by
 induction h with
 | z=>exact⟨_,.z,.z⟩
 | s _ J=>have⟨r,d,D⟩:=J; exact⟨_,.s d,.s D⟩
theorem AhA {l m:List HA} {A:HA} (J:Del l A m):∀ {h W Z:IH},W.disj Z->W.le h->Z.le h->A.holds I W->NH m I Z->NH l I h:=by
 induction J with
 | z=>exact λJ D d ha hs=>⟨_,_,J,D,d,ha,hs⟩
 | s _ ih=>
  rintro h W Z J D d ha ⟨h3,h4,a3,a2,U,hc,hm⟩;refine⟨h3,W.union h4,?_,a2.trans d,IH.union_le D (U.trans d),hc,ih (J.mono (IH.le.refl _) U) (IH.le_union_left _ _) (IH.le_union_right (J.mono (IH.le.refl _) U)) ha hm⟩;intro b;rcases J b with V | V
  . rcases a3 b with O | O
    . exact .inl O
    . right; simp[IH.union,V,O]
  . left
    cases e:h3 b with
    | none=>rfl
    | some o=>rw[a2 b o e] at V; cases V
theorem Sym.del (h:Sym w0 M I0 I l w) {m:List HA} {A:HA} (hd:Del l A m):Sym w0 M I0 I (A :: m) w:=by have⟨hb,hi,Z,k,hs,hk,d,W⟩:=h;have⟨V,h2,U,J,O,ha,D⟩:=kE hd hs;exact⟨hb,hi,Z,k,⟨V,h2,U,J,O,ha,D⟩,hk,d,W⟩
theorem Sym.undel {m:List HA} {A:HA} (h:Sym w0 M I0 I (A :: m) w) (d:Del l A m):Sym w0 M I0 I l w:=by have⟨J,hi,D,k,⟨_,_,hd',hl1,hl2,ha,hs'⟩,hk,hdj,hm⟩:=h;exact⟨J,hi,D,k,AhA d hd' hl1 hl2 ha hs',hk,hdj,hm⟩
theorem Sym.drop {A:HA} (h:Sym w0 M I0 I (A :: l) w):Sym w0 M I0 I l w:=by have⟨D,hi,d,k,⟨_,_,_,_,hl2,_,hs'⟩,hk,hdj,hm⟩:=h;exact⟨D,hi,d,k,LF (IH.le.refl _) hl2 hs',hk,hdj,hm⟩
theorem Sym.get {A:HA} (h:Sym w0 M I0 I (A :: l) w):∃ k,A.holds I k∧k.le (hp w):=by have⟨_,_,_,k,⟨h1,_,_,hl1,_,ha,_⟩,hk,_,_⟩:=h;exact⟨h1,ha,hl1.trans hk⟩
theorem Sym.pto {b:Nat} {o:Obj} (h:Sym w0 M I0 I (pto b o :: l) w):w.heap[b]? = some o:=by have⟨_,hk,d⟩:=h.get;exact d _ _ hk
theorem Sym.weaken {A B:HA} (h:Sym w0 M I0 I (A :: l) w) (d:∀ k,A.holds I k->B.holds I k):Sym w0 M I0 I (B :: l) w:=by have⟨J,hi,D,k,⟨h1,h2,hd',hl1,hl2,ha,hs'⟩,hk,hdj,hm⟩:=h;exact⟨J,hi,D,k,⟨h1,h2,hd',hl1,hl2,d _ ha,hs'⟩,hk,hdj,hm⟩
theorem Sym.upd {b:Nat} {o o':Obj} {w':World} (a3:Sym w0 M I0 I (Fw.pto b o :: l) w) (h1:w'.os=w.os) (h2:w'.tape=w.tape) (h3:w'.output=w.output) (a4:w'.drawn=w.drawn) (h4:w'.heap.size=w.heap.size)
   (Z:∀ k,k≠b->w'.heap[k]? = w.heap[k]?) (h6:w'.heap[b]? = some o'):Sym w0 M I0 I (Fw.pto b o' :: l) w':=by
 have⟨O,hi,hn,k,⟨g1,g2,hd',hl1,hl2,ha,hs'⟩,hk,hdj,hm⟩:=a3;have a6:k b=some o:=hl1 _ _ ha
 have V:I b=none:=by
   rcases hdj b with d | d
   . exact d
   . rw[a6] at d; cases d
 have U:g2 b=none:=by
   rcases hd' b with d | d
   . rw[show g1 b=some o from ha] at d; cases d
   . exact d
 have D:∀ J:IH,J.le (hp w)->J b=none->J.le (hp w'):=λJ hJ a2 c p e=>by
   have a7:c≠b:=λW=>by rw[W,a2] at e; cases e
   show w'.heap[c]? = _;rw[Z c a7]; exact hJ c p e
 refine⟨⟨h1.trans O.os,h2.trans O.tape,h3.trans O.output,by rw[a4]; exact O.drawn,by rw[h4]; exact O.size,λc h a5=>?_⟩,D I hi V,hn,(GH b o').union g2,⟨GH b o',g2,?_,IH.le_union_left _ _,IH.le_union_right ?_,by simp[Fw.pto,GH],hs'⟩,?_,?_,?_⟩
 . by_cases e:c=b
   . grind
   . rw[Z c e]; exact O.block c h a5
 . intro c;grind[GH]
 . intro c;grind[GH]
 . refine IH.union_le (λc p e=>?_) (D g2 (hl2.trans hk) U);simp only[GH] at e;split at e
   . rename_i d; subst d; cases e; exact h6
   . cases e
 . intro c;by_cases e:c=b
   . left; rw[e]; exact V
   . rcases hdj c with d | d
     . exact .inl d
     . right
       have:g2 c=none:=by
        cases W:g2 c with
        | none=>rfl
        | some p=>rw[hl2 c p W] at d; cases d
       simp[IH.union,GH,e,this]
 . intro c h;rcases IH.union_none h with d | d
   . grind[GH]
   . refine hm c ?_
     cases e:g2 c with
     | none=>exact absurd e d
     | some p=>rw[hl2 c p e]; simp
theorem Sym.publish {A:HA} (h:Sym w0 M I0 I (A :: l) w):∃ J k,I.le J∧A.holds I k∧k.le J∧Sym w0 M I0 J l w:=by
  have⟨V,hi,W,k,⟨h1,h2,hd',hl1,hl2,ha,hs'⟩,hk,hdj,hm⟩:=h;have Z:I.disj h1:=hdj.mono (IH.le.refl _) hl1;have U:=IH.le_union_left I h1;refine⟨I.union h1,h1,U,ha,IH.le_union_right Z,V,IH.union_le hi (hl1.trans hk),?_,h2,LF U (IH.le.refl _) hs',hl2.trans hk,?_,?_⟩
  . intro b O;rcases IH.union_none O with d | d
    . exact W b d
    . rcases hm b (by cases e:h1 b with | none=>exact absurd e d | some o=>rw[hl1 b o e]; simp) with D | D
      all_goals grind
  . intro b;rcases hd' b with d | d
    . rcases hdj b with D | D
      . left; simp[IH.union,d,D]
      . right
        cases e:h2 b with
        | none=>rfl
        | some o=>rw[hl2 b o e] at D; cases D
    . exact .inr d
  . intro b O;exact hm b (by cases e:h2 b with | none=>exact absurd e O | some o=>rw[hl2 b o e]; simp)
def S7 (w:World) (M:Nat->Prop) (I:IH) (φ:IH->Value->List HA->Prop):Ending->World->Prop:=
 λe w'=>∃ v d h,e=.returned v∧I.le d∧φ d v h∧Sym w M I d h w'
def Fun (P:Program) (f:FuncId) (args:Array Value) (I:IH) (l:List HA) (φ:IH->Value->List HA->Prop):Prop:=
 ∀ (w:World) (h:IH),I.le (hp w)->NH l I h->h.le (hp w)->I.disj h->Calls P f args w (S7 w (λb=>h b≠none) I φ)
theorem Sym.call {Z:World} {φ:IH->Value->List HA->Prop} {m r:List HA} (b1:Sym w0 M I0 I (m++r) w) {e:Ending}
   (k:IH) (hk:∃ O,k.disj O∧O.le (hp w)∧I.disj k∧I.disj O∧NH r I O∧(∀ b,k b≠none->M b∨w0.heap.size<=b)∧(∀ b,O b≠none->M b∨w0.heap.size<=b))
   (ha:S7 w (λb=>k b≠none) I φ e Z):∃ v h W,e=.returned v∧I.le h∧φ h v W∧Sym w0 M I0 h (W++r) Z:=by
 have⟨v,h,W,he,a7,hφ,hs⟩:=ha;have⟨O,a5,a4,_,d4,hr,d1,hm⟩:=hk;have⟨V,_,hn,_,_,_,_,_⟩:=b1;have⟨J,c2,a9,U,d3,d0,c1,a8⟩:=hs
 have d5:O.le (hp Z):=λb o eq=>by
   have a2:=TD (a4 b o eq)
   have d2:¬k b≠none:=by
     rcases a5 b with D | D
     all_goals grind
   show Z.heap[b]? = _;rw[J.block b a2 d2]; exact a4 b o eq
 have d6:∀ b,O b≠none->b<w.heap.size:=λb c0=>Ah9 a4 c0
 have b0:h.disj O:=λb=>by
   by_cases e2:O b=none
   . exact .inr e2
   . left
     cases e1:h b with
     | none=>rfl
     | some o=>
       exfalso;rcases a9 b (by rw[e1]; simp) with D | D | D
       . rcases d4 b with d | d
         all_goals grind
       . rcases a5 b with d | d
         all_goals grind
       all_goals grind
 have a6:U.disj O:=λb=>by
   by_cases e2:O b=none
   . exact .inr e2
   . left
     cases e1:U b with
     | none=>rfl
     | some o=>
       exfalso;rcases a8 b (by rw[e1]; simp) with D | D
       . rcases a5 b with d | d
         all_goals grind
       all_goals grind
 refine⟨v,h,W,he,a7,hφ,⟨J.os.trans V.os,J.tape.trans V.tape,J.output.trans V.output,gV V.drawn J.drawn,gV V.size J.size,λb h1 h2=>?_⟩,c2,λb a3=>?_,U.union O,KM.2 ⟨U,O,a6,IH.le_union_left _ _,IH.le_union_right a6,d3,LF a7 (IH.le.refl _) hr⟩,IH.union_le d0 d5,?_,?_⟩
 . have a2:b<w.heap.size:=AjJ h1 V.size;by_cases e:k b=none
   . rw[J.block b a2 (by simp[e])]; exact V.block b h1 h2
   all_goals grind
 . rcases a9 b a3 with D | D | D
   . exact hn b D
   . grind
   . exact .inr (.inr (gV V.size D))
 . intro b;rcases c1 b with D | D
   . exact .inl D
   . rcases b0 b with d | d
     . exact .inl d
     . right; simp[IH.union,D,d]
 . intro b a3;rcases IH.union_none a3 with D | D
   . rcases a8 b D with d | d
     . exact d1 b d
     . exact .inr (gV V.size d)
   . exact hm b D
theorem Fun.use {P:Program} {f:FuncId} {args:Array Value} {φ:IH->Value->List HA->Prop} {m r:List HA} (hf:Fun P f args I m φ) (a4:Sym w0 M I0 I (m++r) w)
  {R:Ending->World->Prop} (hR:∀ v Z U w',I.le Z->φ Z v U->Sym w0 M I0 Z (U++r) w'->R (.returned v) w'):Calls P f args w R:=by
 have⟨hb,hi,hn,k,hs,hk,W,O⟩:=a4;have⟨V,h,a5,D,J,a6,a7⟩:=KM.1 hs;refine(hf w V hi a6 (D.trans hk) (W.mono (IH.le.refl _) D)).mono λ_ w' ha=>?_;have a3:∀ b,V b≠none->k b≠none:=λb d=>by cases e':V b with | none=>exact absurd e' d | some o=>rw[D b o e']; simp
 have a2:∀ b,h b≠none->k b≠none:=λb d=>by cases e':h b with | none=>exact absurd e' d | some o=>rw[J b o e']; simp
 obtain⟨v,Z,U,rfl,_,_,_⟩:=Sym.call (m:=m) (r:=r) ⟨hb,hi,hn,k,hs,hk,W,O⟩ V ⟨h,a5,J.trans hk,W.mono (IH.le.refl _) D,W.mono (IH.le.refl _) J,a7,λb d=>O b (a3 b d),λb d=>O b (a2 b d)⟩ ha;grind
theorem Fun.start {h:IH} (hi:I.le (hp w)) (J:NH l I h) (D:h.le (hp w)) (d:I.disj h):Sym w (λb=>h b≠none) I I l w:=
 ⟨⟨rfl,rfl,rfl,Y3 _,Y3 _,λ_ _ _=>rfl⟩,hi,λ_ h=>.inl h,h,J,D,d,λ_ h=>.inl h⟩
variable {P:Program} {n:FrK} {E:DG} {S:World→Prop} {Q:Exit→Act→World→Prop}
def Ops (P:Program) (ops:Array Oper) (l:List Oper) (n:FrK) (E:DG) (S:World->Prop) (Q:Exit->Act->World->Prop):Prop:=
 ∀ a w,Ok n E a->S w->wpListIn (WC n) 0 P ops Q l a w
def Cod (P:Program) (c:Code) (n:FrK) (E:DG) (S:World->Prop) (Q:Exit->Act->World->Prop):Prop:=
 ∀ a w,Ok n E a->S w->c.wpIn (WC n) 0 P Q a w
theorem MZ {b:Frame} {k:List Item} {cs:List Frame} {a:Act} {c:Code}:step P (lone (b.atR a (.code (.scope c) :: k)) cs w)=.next (lone (b.atR a (.code c :: .inScope c :: k)) cs w):=
 step_lone_go (by simp[stepG,stepG.exec,Frame.atR])
theorem xC {b:Frame} {k:List Item} {cs:List Frame} {a:Act} {c:Code}:step P (lone (b.atR a (.inScope c :: k)) cs w)=.next (lone (b.atR a k) cs w):=
 step_lone_go (by simp[stepG,stepG.exec,Frame.atR])
theorem nV {F:Fence} {i:Nat} {c:Code} {a:Act} (a2:c.wpIn F i P (Exit.noGoto Q) a w):(Code.scope c).wpIn F i P Q a w:=by
 intro b k cs V W Z;have J:(lone (b.atR a (.code (.scope c) :: k)) cs w).fenced P F:=fenced_calm W Z rfl;have⟨e,O,U,D,d⟩:=a2 b (.inScope c :: k) cs V W Z
 cases e with
 | normal=>exact⟨.normal,O,U,D,.head J MZ (StepsIn.trans d (.one (fenced_calm W Z rfl) xC))⟩
 | exit id=>
  have h:exitTo id (.inScope c :: k)=exitTo id k:=by simp[exitTo]
  exact⟨.exit id,O,U,D,λk' hk=>.head J MZ (d.1 k' (by rw[h]; exact hk)),
   λa3 hk=>let ⟨k₁,h1,h2⟩:=d.2 a3 (by rw[h]; exact hk); ⟨k₁,h1,.head J MZ h2⟩⟩
 | goto l=>exact D.elim
 | ret=>exact⟨_,O,U,D,.of_steps (.one J MZ) d⟩
 | panic ch=>exact⟨_,O,U,D,.of_steps (.one J MZ) d⟩
 | outgrown=>exact⟨_,O,U,D,.of_steps (.one J MZ) d⟩
theorem Cod.at {c:Code} {a:Act} (D:Ok n E a) (d:S w) (h:Cod P c n E S Q):c.wpIn (WC n) 0 P Q a w:=h a w D d
theorem Ops.sub {ops:Array Oper} {l:List Oper} {E':DG} (d:Sub E' E) (h:Ops P ops l n E' S Q):Ops P ops l n E S Q:=λa w J D=>h a w (J.sub d) D
theorem Cod.pre {c:Code} {d:World->Prop} (D:∀ w,S w->d w) (h:Cod P c n E d Q):Cod P c n E S Q:=λa w O J=>h a w O (D w J)
theorem Ops.pre {ops:Array Oper} {l:List Oper} {d:World->Prop} (D:∀ w,S w->d w) (h:Ops P ops l n E d Q):Ops P ops l n E S Q:=λa w O J=>h a w O (D w J)
theorem Cod.seq {x y:Code} (h:Cod P x n E S (Exit.then (y.wpIn (WC n) 0 P Q) Q)):Cod P (.seq x y) n E S Q:=λa w D d=>wpIn_seq (h a w D d)
theorem Cod.region {l:List Oper} (h:Ops P l.toArray l n E S Q):Cod P (.region id l.toArray false) n E S Q:=λa w D d=>wpIn_region_lit (h a w D d)
theorem Cod.block {c:Code} (h:Cod P c n E S (Exit.inBlock id Q)):Cod P (.block id c) n E S Q:=λa w D d=>wpIn_block (h a w D d)
theorem Cod.scope {c:Code} (h:Cod P c n E S (Exit.noGoto Q)):Cod P (.scope c) n E S Q:=λa w D d=>nV (h a w D d)
theorem Cod.skip' (h:∀ a w,Ok n E a->S w->Q .normal a w):Cod P .skip n E S Q:=λa w D d=>wpIn_skip (h a w D d)
theorem Cod.exit (h:∀ a w,Ok n E a->S w->Q (.exit id) a w):Cod P (.exit id) n E S Q:=λa w D d=>wpIn_exit (h a w D d)
theorem Cod.ret (h:∀ a w,Ok n E a->S w->Q .ret a w):Cod P .ret n E S Q:=λa w D d=>wpIn_ret (h a w D d)
theorem Cod.label' {k:Nat} (h:∀ a w,Ok n E a->S w->Q .normal a w):Cod P (.label k) n E S Q:=λa w D d=>wpIn_label (h a w D d)
theorem Cod.cond {c:Operand} {x y:Code} {t:Bool} (O:ev E c=some (.bool t)) (U:t=true->Cod P x n E S Q) (J:t=false->Cod P y n E S Q):Cod P (.cond c x y) n E S Q:=
 λa w d D=>wpIn_cond_split (d.eval O) (λh=>U h a w d D) (λh=>J h a w d D)
theorem Cod.condT {c:Operand} {x y:Code} (D:ev E c=some (.bool true)) (h:Cod P x n E S Q):Cod P (.cond c x y) n E S Q:=λa w d J=>wpIn_cond_true (d.eval D) (h a w d J)
theorem Cod.condF {c:Operand} {x y:Code} (D:ev E c=some (.bool false)) (h:Cod P y n E S Q):Cod P (.cond c x y) n E S Q:=λa w d J=>wpIn_cond_false (d.eval D) (h a w d J)
theorem Cod.condKT {c:Operand} {x y:Code} {t:Bool} (D:ev E c=some (.bool t)) (d:t=true) (h:Cod P x n E S Q):Cod P (.cond c x y) n E S Q:=Cod.condT (by rw[D,d]) h
theorem Cod.condKF {c:Operand} {x y:Code} {t:Bool} (D:ev E c=some (.bool t)) (d:t=false) (h:Cod P y n E S Q):Cod P (.cond c x y) n E S Q:=Cod.condF (by rw[D,d]) h
theorem Ops.nil' {ops:Array Oper} (h:∀ a w,Ok n E a->S w->Q .normal a w):Ops P ops [] n E S Q:=λa w D d=>h a w D d
theorem kF {o:Oper} {a:Act} {K:Act->World->Prop} {x:Next} {O:World} (D:(execOp a.eval o).run P w=.ok x O) (U:∀ d,x≠.defer d) (h:o.uponIn (WC n) 0 P a K Q (.ok x O)):o.wpIn (WC n) 0 P a w K Q:=by
 have J:∀ c,o.op≠.defer c:=λc V=>by
  unfold execOp at D; rw[V] at D;simp only[Sem.run_bind,Result.andThen] at D;split at D
  . simp at D; exact U _ D.1.symm
  . cases D
 refine⟨λ_ _=>trivial,?_⟩;rw[Oper.semAt_eq _ _ _ J,D]; exact h
def A4 (b:Bool) (A B:Prop):Prop:=(b=true->A)∧(b=false->B)
def S8 (d:σ->(σ->Prop)->Prop):Nat->σ->Prop
 | 0,_=>False
 | k+1,s=>d s (S8 d k)
def AY (d:σ->(σ->Prop)->Prop) (s:σ):Prop:=∃ k,S8 d k s
theorem Cod.loop {c:Code} {d:σ->(σ->Prop)->Prop} {s0:σ} (hd:AY d s0) (J:σ->Act->World->Prop) (h0:∀ a w,Ok n E a->S w->J s0 a w)
  (a2:∀ s (next:σ->Prop),d s next->∀ a w,J s a w->c.wpIn (WC n) 0 P (Exit.then (λO w'=>∃ D,next D∧J D O w') Q) a w):Cod P (.loop c) n E S Q:=by
 intro a w ho hs
 have⟨k,hk⟩:=hd
 have a3:=h0 a w ho hs
 clear h0 ho hs
 obtain⟨μ,hμ⟩:∃ μ:Act->World->Nat,∀ a w,(∃ j s,S8 d j s∧J s a w)->∃ s,S8 d (μ a w) s∧J s a w∧∀ j D,S8 d j D->J D a w->μ a w<=j:=by
  have H:∀ a w,∃ m:Nat,(∃ j s,S8 d j s∧J s a w)->∃ s,S8 d m s∧J s a w∧∀ j D,S8 d j D->J D a w->m<=j:=by
   intro a w
   by_cases hex:∃ j s,S8 d j s∧J s a w
   . have⟨j,s,W⟩:=hex
     suffices h:∀ (b:Nat) (s:σ),S8 d b s->J s a w->∃ m s,S8 d m s∧J s a w∧∀ j D,S8 d j D->J D a w->m<=j by
      have⟨m,s,U,Z,h3⟩:=h j s W.1 W.2
      exact⟨m,λ_=>⟨s,U,Z,h3⟩⟩
     intro b
     induction b using Nat.strongRecOn with
     | _ b ih=>
      grind
   . exact⟨0,λh=>absurd h hex⟩
  exact⟨λa w=>Classical.choose (H a w),λa w=>Classical.choose_spec (H a w)⟩
 refine wpIn_loop (λa w=>∃ j s,S8 d j s∧J s a w) μ ⟨k,s0,hk,a3⟩ λa w hI=>?_
 have⟨s,U,Z,h3⟩:=hμ a w hI
 cases hm:μ a w with
 | zero=>rw[hm] at U; exact U.elim
 | succ m=>
  rw[hm] at U
  refine Code.wpIn_mono (λe O w' q=>?_) (a2 s (S8 d m) U a w Z)
  cases e <;> try exact q
  have⟨D,hn,V⟩:=q
  refine⟨⟨m,D,hn,V⟩,?_⟩
  have⟨_,_,_,_⟩:=hμ O w' ⟨m,D,hn,V⟩
  grind
end
section
variable {w0 w:World} {M:Nat→Prop} {I0 I:IH} {m:List HA}
variable {P:Program} {n:FrK} {E:DG} {S:World→Prop} {Q:Exit→Act→World→Prop} {ops:Array Oper} {l:List Oper}
variable {d ty:Nat} {pos:String} {af:Array Edge}
variable {q':IntKind}
theorem Ops.valx {o:Oper} (T:Value->World->Prop) (Z:o.guard=none) (V:o.dst=some d)
  (O:∀ a w,Ok n E a->S w->∃ v w',(execOp a.eval o).run P w=.ok (.value v) w'∧T v w')
  (U:Nat.blt d n.sz=true) (W:fresh E d=true) (k:∀ v,Ops P ops l n ((d,v) :: E) (T v) Q):Ops P ops (o :: l) n E S Q:=by
 intro a w D hs;have⟨v,w',h,J⟩:=O a w D hs;refine wpListIn_plain Z λ_ hK=>?_;refine kF h (by simp) ?_;simp only[Oper.uponIn,V];exact hK _ _ (k v _ _ (D.put U W v) J)
theorem Ops.val {o:Oper} {v:Value} (U:o.guard=none) (J:o.dst=some d)
  (W:∀ a w,Ok n E a->S w->(execOp a.eval o).run P w=.ok (.value v) w)
  (Z:Nat.blt d n.sz=true) (O:fresh E d=true) (k:Ops P ops l n ((d,v) :: E) S Q):Ops P ops (o :: l) n E S Q:=by
 intro a w D h;refine wpListIn_plain U λ_ V=>?_;refine kF (W a w D h) (by simp) ?_;simp only[Oper.uponIn,J];exact V _ _ (k _ _ (D.put Z O v) h)
theorem Ops.act {o:Oper} {D:World->Prop} (V:o.guard=none) (O:o.dst=none)
  (hr:∀ a w,Ok n E a->S w->∃ w',(execOp a.eval o).run P w=.ok .skip w'∧D w') (k:Ops P ops l n E D Q):Ops P ops (o :: l) n E S Q:=by
 intro a w J Z;have⟨w',h,U⟩:=hr a w J Z;refine wpListIn_plain V λ_ W=>?_;refine kF h (by simp) ?_;simp only[Oper.uponIn,O];exact W _ _ (k _ _ J U)
theorem Ops.val0 {o:Oper} {D:World->Prop} (W:o.guard=none) (V:o.dst=none)
  (U:∀ a w,Ok n E a->S w->∃ v w',(execOp a.eval o).run P w=.ok (.value v) w'∧D w') (k:Ops P ops l n E D Q):Ops P ops (o :: l) n E S Q:=by
 intro a w J hs;have⟨v,w',h,O⟩:=U a w J hs;refine wpListIn_plain W λ_ Z=>?_;refine kF h (by simp) ?_;simp only[Oper.uponIn,V];exact Z _ _ (k _ _ J O)
def qC (ops:Array Oper) (j:Nat):Option Nat:=(ops[j]?).bind (·.dst)
theorem gX {a:Act} {j s:Nat} {b:Bool} (D:qC ops j=some s) (h:a.tmps[s]? = some (.bool b)):yielded ops a.tmps j=some b:=by simp only[qC] at D;simp[yielded,D,h]
theorem Ops.gyes {h:Option Nat} {D:Op} {j s:Nat} {b c:Bool} (V:qC ops j=some s) (W:look E s=some (.bool c)) (U:c=b)
  (k:Ops P ops (⟨h,D,ty,pos,af,none⟩ :: l) n E S Q):Ops P ops (⟨h,D,ty,pos,af,some (j,b)⟩ :: l) n E S Q:=by
 subst U;intro a w J Z;have hk:=k a w J Z;unfold wpListIn at hk ⊢;have O:=gX (ops:=ops) V (J.env.look W);rw[if_pos (by simp[Region.wanted])] at hk;rw[if_pos (by simp[Region.wanted,O])];exact hk
theorem Ops.gno {h:Nat} {op:Op} {j s:Nat} {b c:Bool} (W:qC ops j=some s) (Z:look E s=some (.bool c)) (D:c = !b)
  (U:Nat.blt h n.sz=true) (O:fresh E h=true) (k:Ops P ops l n ((h,undef) :: E) S Q):Ops P ops (⟨some h,op,ty,pos,af,some (j,b)⟩ :: l) n E S Q:=by
 intro a w J hw;unfold wpListIn;have V:=gX (ops:=ops) W (J.env.look Z);rw[if_neg (by simp only[Region.wanted,V]; subst D; cases b <;> simp)];exact⟨λ_ _=>trivial,k _ _ (J.put U O undef) hw⟩
section
variable {x y z:Operand} {v u:Value}
theorem Ops.move (D:ev E x=some v) (O:Nat.blt d n.sz=true) (h:fresh E d=true) (k:Ops P ops l n ((d,v) :: E) S Q):Ops P ops (⟨some d,.move x,ty,pos,af,none⟩ :: l) n E S Q:=
 Ops.val rfl rfl (λ_ _ J _=>by simp[execOp,J.eval D]) O h k
theorem Ops.pickT {c:Bool} (U:ev E x=some (.bool c)) (O:c=true) (J:ev E y=some v) (V:Nat.blt d n.sz=true) (D:fresh E d=true) (k:Ops P ops l n ((d,v) :: E) S Q) :
  Ops P ops (⟨some d,.pick x y z,ty,pos,af,none⟩ :: l) n E S Q:=
 Ops.val rfl rfl (λ_ _ h _=>by subst O; simp[execOp,h.eval U,h.eval J,asBool]) V D k
theorem Ops.pickF {c:Bool} (U:ev E x=some (.bool c)) (O:c=false) (J:ev E z=some v) (V:Nat.blt d n.sz=true) (D:fresh E d=true) (k:Ops P ops l n ((d,v) :: E) S Q) :
  Ops P ops (⟨some d,.pick x y z,ty,pos,af,none⟩ :: l) n E S Q:=
 Ops.val rfl rfl (λ_ _ h _=>by subst O; simp[execOp,h.eval U,h.eval J,asBool]) V D k
theorem Ops.nilCheckP {p:Addr} (J:ev E x=some (.pointer (some p))) (D:Nat.blt d n.sz=true) (h:fresh E d=true) (k:Ops P ops l n ((d,.pointer (some p)) :: E) S Q) :
  Ops P ops (⟨some d,.nilCheck x,ty,pos,af,none⟩ :: l) n E S Q:=
 Ops.val rfl rfl (λ_ _ O _=>by simp[execOp,O.eval J]) D h k
theorem Ops.makeFunc {h:Fn} {first cap:Array Operand} {vs D:Array Value} (U:∀ a,Ok n E a->first.map a.eval=vs) (V:∀ a,Ok n E a->cap.map a.eval=D)
  (W:Nat.blt d n.sz=true) (O:fresh E d=true) (k:Ops P ops l n ((d,.func h vs D) :: E) S Q):Ops P ops (⟨some d,.makeFunc h first cap,ty,pos,af,none⟩ :: l) n E S Q:=
 Ops.val rfl rfl (λa _ J _=>by simp only[execOp,Instr.makeFunc,U a J,V a J]; rfl) W O k
end
section
variable {x y:Operand} {q:IntKind} {a b:Int} {T T':TypeId}
abbrev A5 (x:Int):Int:=IntKind.wrap .i64 x
def Y4 (q:IntKind) (a b:Int):Int:=q.wrap (BitVec.ofInt q.bits a &&& BitVec.ofInt q.bits b).toNat
def yX (q:IntKind) (a b:Int):Int:=q.wrap (BitVec.ofInt q.bits a ||| BitVec.ofInt q.bits b).toNat
def AxI (q:IntKind) (a b:Int):Int:=q.wrap (BitVec.ofInt q.bits a ^^^ BitVec.ofInt q.bits b).toNat
def Ae2 (q:IntKind) (a b:Int):Int:=q.wrap (BitVec.ofInt q.bits a &&& ~~~ BitVec.ofInt q.bits b).toNat
def shl (q:IntKind) (a b:Int):Int:=q.wrap (a*2 ^ (min b.toNat q.bits))
def shr (q:IntKind) (a b:Int):Int:=a.fdiv (2 ^ (min b.toNat q.bits))
theorem Ops.int2 {h:BinOp} {v:Value} (O:ev E x=some (.int q a)) (J:ev E y=some (.int q b)) (V:∀ w,(binOp h T (.int q a) (.int q b)).run P w=.ok v w)
  (U:Nat.blt d n.sz=true) (W:fresh E d=true) (k:Ops P ops l n ((d,v) :: E) S Q):Ops P ops (⟨some d,.binOp h T x y T',ty,pos,af,none⟩ :: l) n E S Q:=
 Ops.val rfl rfl (λ_ w D _=>by
  have Z:(eqGuard h T x y (.int q a) (.int q b)).run P w=.ok () w:=by unfold eqGuard; cases h <;> rfl
  simp only[execOp,D.eval O,D.eval J,Sem.run_bind,Z,Result.andThen_ok,V,Sem.run_pure]) U W k
theorem Ops.add (J:ev E x=some (.int q a)) (D:ev E y=some (.int q b)) (O:Nat.blt d n.sz=true) (h:fresh E d=true) (k:Ops P ops l n ((d,.int q (q.wrap (a+b))) :: E) S Q) :
 Ops P ops (⟨some d,.binOp .add T x y T',ty,pos,af,none⟩ :: l) n E S Q:=Ops.int2 J D (λ_=>by simp[binOp,Op.intArith]) O h k
theorem Ops.quo (O:ev E x=some (.int q a)) (J:ev E y=some (.int q b)) (D:b≠0) (U:Nat.blt d n.sz=true) (h:fresh E d=true) (k:Ops P ops l n ((d,.int q (q.wrap (a.tdiv b))) :: E) S Q) :
 Ops P ops (⟨some d,.binOp .quo T x y T',ty,pos,af,none⟩ :: l) n E S Q:=Ops.int2 O J (λ_=>by simp[binOp,Op.intDiv,D]) U h k
theorem Ops.rem (O:ev E x=some (.int q a)) (J:ev E y=some (.int q b)) (D:b≠0) (U:Nat.blt d n.sz=true) (h:fresh E d=true) (k:Ops P ops l n ((d,.int q (a.tmod b)) :: E) S Q) :
 Ops P ops (⟨some d,.binOp .rem T x y T',ty,pos,af,none⟩ :: l) n E S Q:=Ops.int2 O J (λ_=>by simp[binOp,Op.intDiv,D]) U h k
theorem Ops.and (J:ev E x=some (.int q a)) (D:ev E y=some (.int q b)) (O:Nat.blt d n.sz=true) (h:fresh E d=true) (k:Ops P ops l n ((d,.int q (Y4 q a b)) :: E) S Q) :
 Ops P ops (⟨some d,.binOp .and T x y T',ty,pos,af,none⟩ :: l) n E S Q:=Ops.int2 J D (λ_=>by simp[binOp,Op.intBits,Y4]) O h k
theorem Ops.eq (J:ev E x=some (.int q a)) (D:ev E y=some (.int q b)) (O:Nat.blt d n.sz=true) (h:fresh E d=true) (k:Ops P ops l n ((d,.bool (a==b)) :: E) S Q) :
 Ops P ops (⟨some d,.binOp .eql T x y T',ty,pos,af,none⟩ :: l) n E S Q:=Ops.int2 J D (λ_=>by simp[binOp,Op.intCmp]) O h k
theorem Ops.ne (J:ev E x=some (.int q a)) (D:ev E y=some (.int q b)) (O:Nat.blt d n.sz=true) (h:fresh E d=true) (k:Ops P ops l n ((d,.bool (a != b)) :: E) S Q) :
 Ops P ops (⟨some d,.binOp .neq T x y T',ty,pos,af,none⟩ :: l) n E S Q:=Ops.int2 J D (λ_=>by simp[binOp,Op.intCmp]) O h k
theorem Ops.gt (J:ev E x=some (.int q a)) (D:ev E y=some (.int q b)) (O:Nat.blt d n.sz=true) (h:fresh E d=true) (k:Ops P ops l n ((d,.bool (decide (b<a))) :: E) S Q) :
 Ops P ops (⟨some d,.binOp .gtr T x y T',ty,pos,af,none⟩ :: l) n E S Q:=Ops.int2 J D (λ_=>by simp[binOp,Op.intCmp]) O h k
theorem Ops.sft {h:BinOp} {v:Value} (W:ev E x=some (.int q a)) (U:ev E y=some (.int q' b)) (D:h=.shl∨h=.shr) (Z:∀ w,(binOp h T (.int q a) (.int q' b)).run P w=.ok v w)
  (hb:Nat.blt d n.sz=true) (O:fresh E d=true) (k:Ops P ops l n ((d,v) :: E) S Q):Ops P ops (⟨some d,.binOp h T x y T',ty,pos,af,none⟩ :: l) n E S Q:=
 Ops.val rfl rfl (λ_ w J _=>by
  have V:(eqGuard h T x y (.int q a) (.int q' b)).run P w=.ok () w:=by rcases D with rfl | rfl <;> rfl
  simp only[execOp,J.eval W,J.eval U,Sem.run_bind,V,Result.andThen_ok,Z,Sem.run_pure]) hb O k
theorem Ops.shl' (O:ev E x=some (.int q a)) (J:ev E y=some (.int q' b)) (D:0<=b) (U:Nat.blt d n.sz=true) (h:fresh E d=true) (k:Ops P ops l n ((d,.int q (shl q a b)) :: E) S Q) :
 Ops P ops (⟨some d,.binOp .shl T x y T',ty,pos,af,none⟩ :: l) n E S Q:=Ops.sft O J (.inl rfl) (λ_=>by simp[binOp,Op.shift,Fw.shl,Int.not_lt.2 D]) U h k
theorem Ops.shr' (O:ev E x=some (.int q a)) (J:ev E y=some (.int q' b)) (D:0<=b) (U:Nat.blt d n.sz=true) (h:fresh E d=true) (k:Ops P ops l n ((d,.int q (shr q a b)) :: E) S Q) :
 Ops P ops (⟨some d,.binOp .shr T x y T',ty,pos,af,none⟩ :: l) n E S Q:=Ops.sft O J (.inr rfl) (λ_=>by simp[binOp,Op.shift,Fw.shr,Int.not_lt.2 D]) U h k
theorem Ops.not {b:Bool} (D:ev E x=some (.bool b)) (O:Nat.blt d n.sz=true) (h:fresh E d=true) (k:Ops P ops l n ((d,.bool (!b)) :: E) S Q) :
 Ops P ops (⟨some d,.unOp .not T x,ty,pos,af,none⟩ :: l) n E S Q:=Ops.val rfl rfl (λ_ _ J _=>by simp[execOp,J.eval D,Op.unary]) O h k
theorem Ops.neg (D:ev E x=some (.int q a)) (O:Nat.blt d n.sz=true) (h:fresh E d=true) (k:Ops P ops l n ((d,.int q (q.wrap (0 - a))) :: E) S Q) :
 Ops P ops (⟨some d,.unOp .neg T x,ty,pos,af,none⟩ :: l) n E S Q:=Ops.val rfl rfl (λ_ _ J _=>by simp[execOp,J.eval D,Op.unary,Op.intArith]) O h k
theorem Ops.conv {D:IntKind} (O:P.underlying T=some (.int D)) (h:P.underlying T'=some (.int q')) (U:ev E x=some (.int q a)) (W:Nat.blt d n.sz=true) (J:fresh E d=true)
  (k:Ops P ops l n ((d,.int q' (q'.wrap a)) :: E) S Q) :
  Ops P ops (⟨some d,.convert T T' x,ty,pos,af,none⟩ :: l) n E S Q:=
 Ops.val rfl rfl (λ_ _ V _=>by simp[execOp,V.eval U,convert,run_underlying O,run_underlying h,Conv.intToInt]) W J k
theorem dB {u v:Value} {r:Bool} (h:∀ e w,(Op.equalIn (e+1) T u v).run P w=.ok r w) (w:World):(Op.equal T u v).run P w=.ok r w:=h 9999 w
theorem Ops.eqV {u v:Value} {r:Bool} (W:ev E x=some u) (U:ev E y=some v) (Z:∀ w,(Op.equal T u v).run P w=.ok r w)
  (O:∀ w,(eqGuard .eql T x y u v).run P w=.ok () w) (h:binOp .eql T u v=(do pure (.bool (<-Op.equal T u v))))
  (V:Nat.blt d n.sz=true) (J:fresh E d=true) (k:Ops P ops l n ((d,.bool r) :: E) S Q):Ops P ops (⟨some d,.binOp .eql T x y T',ty,pos,af,none⟩ :: l) n E S Q:=
 Ops.val rfl rfl (λ_ w D _=>by simp only[execOp,D.eval W,D.eval U,Sem.run_bind,O,Result.andThen_ok,h,Z,Sem.run_pure]) V J k
theorem Ops.neV {u v:Value} {r:Bool} (W:ev E x=some u) (U:ev E y=some v) (Z:∀ w,(Op.equal T u v).run P w=.ok r w)
  (O:∀ w,(eqGuard .neq T x y u v).run P w=.ok () w) (h:binOp .neq T u v=(do pure (.bool (!(<-Op.equal T u v)))))
  (V:Nat.blt d n.sz=true) (J:fresh E d=true) (k:Ops P ops l n ((d,.bool (!r)) :: E) S Q):Ops P ops (⟨some d,.binOp .neq T x y T',ty,pos,af,none⟩ :: l) n E S Q:=
 Ops.val rfl rfl (λ_ w D _=>by simp only[execOp,D.eval W,D.eval U,Sem.run_bind,O,Result.andThen_ok,h,Z,Sem.run_pure]) V J k
theorem Ops.eqB {a b:Bool} (D:P.underlying T=some .bool) (O:ev E x=some (.bool a)) (J:ev E y=some (.bool b)) (U:Nat.blt d n.sz=true) (h:fresh E d=true) (k:Ops P ops l n ((d,.bool (a==b)) :: E) S Q) :
  Ops P ops (⟨some d,.binOp .eql T x y T',ty,pos,af,none⟩ :: l) n E S Q:=
 Ops.eqV O J (dB λ_ _=>by simp[Op.equalIn,run_underlying D]) (λ_=>rfl) rfl U h k
theorem Ops.neB {a b:Bool} (D:P.underlying T=some .bool) (O:ev E x=some (.bool a)) (J:ev E y=some (.bool b)) (U:Nat.blt d n.sz=true) (h:fresh E d=true) (k:Ops P ops l n ((d,.bool (!(a==b))) :: E) S Q) :
  Ops P ops (⟨some d,.binOp .neq T x y T',ty,pos,af,none⟩ :: l) n E S Q:=
 Ops.neV O J (dB λ_ _=>by simp[Op.equalIn,run_underlying D]) (λ_=>rfl) rfl U h k
theorem Ops.eqNilP {p:Option Addr} {t:TypeId} (D:P.underlying T=some (.pointer t)) (U:ev E x=some (.pointer p)) (O:ev E y=some (.pointer none)) (J:Nat.blt d n.sz=true) (h:fresh E d=true)
  (k:Ops P ops l n ((d,.bool p.isNone) :: E) S Q):Ops P ops (⟨some d,.binOp .eql T x y T',ty,pos,af,none⟩ :: l) n E S Q:=
 Ops.eqV U O (dB λ_ _=>by cases p <;> simp[Op.equalIn,run_underlying D]) (λ_=>rfl) rfl J h k
theorem Ops.neNilP {p:Option Addr} {t:TypeId} (D:P.underlying T=some (.pointer t)) (U:ev E x=some (.pointer p)) (O:ev E y=some (.pointer none)) (J:Nat.blt d n.sz=true) (h:fresh E d=true)
  (k:Ops P ops l n ((d,.bool (!p.isNone)) :: E) S Q):Ops P ops (⟨some d,.binOp .neq T x y T',ty,pos,af,none⟩ :: l) n E S Q:=
 Ops.neV U O (dB λ_ _=>by cases p <;> simp[Op.equalIn,run_underlying D]) (λ_=>rfl) rfl J h k
end
theorem Ops.minI {x y:Operand} {q:IntKind} {a b:Int} {h:Array TypeId} (U:ev E x=some (.int q a)) (O:ev E y=some (.int q b)) (V:Nat.blt d n.sz=true) (J:fresh E d=true)
  (k:Ops P ops l n ((d,.int q (if b<a then b else a)) :: E) S Q):Ops P ops (⟨some d,.call ⟨.builtin .min,#[x,y],h⟩,ty,pos,af,none⟩ :: l) n E S Q:=
 Ops.val rfl rfl (λ_ _ D _=>by simp[execOp,resolve,invoke,builtin,Builtin.min_,Builtin.min2,D.eval U,D.eval O]) V J k
theorem Ops.maxI {x y:Operand} {q:IntKind} {a b:Int} {h:Array TypeId} (U:ev E x=some (.int q a)) (O:ev E y=some (.int q b)) (V:Nat.blt d n.sz=true) (J:fresh E d=true)
  (k:Ops P ops l n ((d,.int q (if b > a then b else a)) :: E) S Q):Ops P ops (⟨some d,.call ⟨.builtin .max,#[x,y],h⟩,ty,pos,af,none⟩ :: l) n E S Q:=
 Ops.val rfl rfl (λ_ _ D _=>by simp[execOp,resolve,invoke,builtin,Builtin.max_,Builtin.max2,D.eval U,D.eval O]) V J k
theorem eqS {T:TypeId} {k:Nat} {D:Array Field} {xs ys:Array Value} {r:Bool} (J:P.underlying T=some (.struct D)) (hp:P.stoodInHeld T=false) (h:∀ w,(Op.eqFields k xs ys D.toList).run P w=.ok r w) (w:World) :
  (Op.equalIn (k+1) T (.agg xs) (.agg ys)).run P w=.ok r w:=by
 have e0:P.fieldsOf T=D:=by simp[Program.fieldsOf,J]
 rw[run_equalIn_struct w k T xs ys (by rw[J,e0]) hp,e0]; exact h w
theorem eqN {k:Nat} {xs ys:Array Value} (w:World):(Op.eqFields k xs ys []).run P w=.ok true w:=rfl
theorem eqC {k:Nat} {xs ys:Array Value} {f:Field} {D:List Field} {u v:Value} {b r:Bool} (J:f.name ≠ "_") (O:∀ w,(isAgg f.type).run P w=.ok false w) (V:xs[f.offset]? = some u) (U:ys[f.offset]? = some v)
  (W:∀ w,(Op.equalIn k f.type u v).run P w=.ok b w) (h:∀ w,(Op.eqFields k xs ys D).run P w=.ok r w) (w:World):(Op.eqFields k xs ys (f :: D)).run P w=.ok (b && r) w:=by
 simp only[Op.eqFields,J,ne_eq,not_false_eq_true,if_true,Sem.run_bind,part,O,Result.andThen_ok,AaU,if_false,V,U,Sem.run_pure,W];cases b <;> simp[h]
theorem eqI {T:TypeId} {k:Nat} {q:IntKind} {a b:Int} (h:P.underlying T=some (.int q')) (w:World):(Op.equalIn (k+1) T (.int q a) (.int q b)).run P w=.ok (a==b) w:=run_equalIn_int w k T q q' a b h
end
section
variable {w0 w:World} {M:Nat→Prop} {I0 I:IH} {m m':List HA}
variable {P:Program} {n:FrK} {E:DG} {Q:Exit→Act→World→Prop} {ops:Array Oper} {l:List Oper}
variable {d ty:Nat} {pos:String} {af:Array Edge} {T:TypeId} {x y:Operand}
/-! ### Cells by lists -/
variable {T':TypeId} {fs:Array Field} {cs':List Value} {fz:Nat×Nat}
inductive Cut:List Value→Nat→List Value→Prop
 | nil {cs:List Value}:Cut cs 0 []
 | t {c:Value} {cs vs:List Value}:Cut cs 0 vs→Cut (c :: cs) 0 (c :: vs)
 | s {c:Value} {cs vs:List Value} {k:Nat}:Cut cs k vs→Cut (c :: cs) (k+1) vs
theorem Cut.get {cs vs:List Value} {k:Nat} (h:Cut cs k vs):∀ j v,vs[j]? = some v->cs[k+j]? = some v:=by
 induction h with
 | nil=>intro j v h; simp at h
 | t h D=>
  grind
 | s h D=>grind
inductive PutC:List Value→Nat→List Value→List Value→Prop
 | nil {cs:List Value}:PutC cs 0 [] cs
 | t {c v:Value} {cs vs cs':List Value}:PutC cs 0 vs cs'→PutC (c :: cs) 0 (v :: vs) (v :: cs')
 | s {c:Value} {cs vs cs':List Value} {k:Nat}:PutC cs k vs cs'→PutC (c :: cs) (k+1) vs (c :: cs')
theorem PutC.eq {cs vs:List Value} {k:Nat} (h:PutC cs k vs cs'):cs'=cs.take k++vs++cs.drop (k+vs.length)∧k+vs.length<=cs.length:=by
 induction h with
 | nil=>simp
 | t h D=>grind
 | s h D=>
  grind
def one (v:Value):Bool:=v.oneCell'
def NN:List Value->Bool
 | []=>true
 | v :: vs=>one v && NN vs
theorem X0 {vs:List Value} (h:NN vs=true):∀ v∈vs,v.oneCell'=true:=by
 induction vs with
 | nil=>intro v D; cases D
 | cons u vs J=>
  simp only[NN,aM] at h;intro v D
  cases D with
  | head=>exact h.1
  | tail _ D=>exact J h.2 v D
theorem R4 {b off:Nat} {v:Value} (h:∀ w,(isAgg T).run P w=.ok false w) (D:w.cell? ⟨b,off,none⟩=some v):(Instr.loadAt T (.pointer (some ⟨b,off,none⟩))).run P w=.ok v w:=by simp[Instr.loadAt,Instr.sureAddr,loadVar,h,D]
theorem KN {b off s:Nat} {vs:List Value} (D:∀ w,(isAgg T).run P w=.ok true w) (U:∀ w,(sizeOf T).run P w=.ok s w) (V:vs.length=s) (O:∀ j v,vs[j]? = some v->w.cell? ⟨b,off+j,none⟩=some v) :
  (Instr.loadAt T (.pointer (some ⟨b,off,none⟩))).run P w=.ok (.agg vs.toArray) w:=by
 subst V
 have h:=run_loadCells_list (P:=P) w ⟨b,off,none⟩ vs (λj v J=>by
  have:=O j v J;have e:(⟨b,off,none⟩:Addr).add j=⟨b,off+j,none⟩:=by unfold Addr.add; split <;> simp_all
  rw[e]; exact this)
 simp[Instr.loadAt,Instr.sureAddr,loadVar,D,U,h]
theorem MB {b off:Nat} {cs:Array Value} {t:TypeId} (h:w.heap[b]? = some (.cells cs t fz)):w.cell? ⟨b,off,none⟩=cs[off]?:=by simp[World.cell?,h]
theorem Ops.allocA {z:Array Value} (J:∀ w,(zeroValue T).run P w=.ok (.agg z) w) (V:Nat.blt d n.sz=true) (D:fresh E d=true)
  (k:∀ b,Ops P ops l n ((d,.pointer (some ⟨b,0,none⟩)) :: E) (Sym w0 M I0 I (pto b (.cells z T) :: m)) Q) :
  Ops P ops (⟨some d,.alloc T,ty,pos,af,none⟩ :: l) n E (Sym w0 M I0 I m) Q:=
 Ops.valx (λv w'=>∃ b,v=.pointer (some ⟨b,0,none⟩)∧Sym w0 M I0 I (pto b (.cells z T) :: m) w') rfl rfl
  (λa w _ h=>⟨.pointer (some ⟨w.heap.size,0,none⟩),w.alloc (.cells z T),by simp[execOp,Instr.alloc,J,newVar,newRow,Value.cells],_,rfl,h.alloc _⟩) V D
  (λv a w U ⟨b,O,h⟩=>by subst O; exact k b a w U h)
theorem Ops.alloc1 {z:Value} (J:∀ w,(zeroValue T).run P w=.ok z w) (O:one z=true) (Z:Nat.blt d n.sz=true) (D:fresh E d=true)
  (k:∀ b,Ops P ops l n ((d,.pointer (some ⟨b,0,none⟩)) :: E) (Sym w0 M I0 I (pto b (.cells #[z] T) :: m)) Q) :
  Ops P ops (⟨some d,.alloc T,ty,pos,af,none⟩ :: l) n E (Sym w0 M I0 I m) Q:=
 Ops.valx (λv w'=>∃ b,v=.pointer (some ⟨b,0,none⟩)∧Sym w0 M I0 I (pto b (.cells #[z] T) :: m) w') rfl rfl
  (λa w _ h=>⟨.pointer (some ⟨w.heap.size,0,none⟩),w.alloc (.cells #[z] T),by
   have U:z.cells = #[z]:=by cases z <;> first | rfl | cases O
   simp[execOp,Instr.alloc,J,newVar,newRow,U],_,rfl,h.alloc _⟩) Z D
  (λv a w W ⟨b,V,h⟩=>by subst V; exact k b a w W h)
theorem Ops.boxA {z:Array Value} (O:ev E x=some (.agg z)) (V:Nat.blt d n.sz=true) (J:fresh E d=true)
  (k:∀ b,Ops P ops l n ((d,.pointer (some ⟨b,0,none⟩)) :: E) (Sym w0 M I0 I (pto b (.cells z T) :: m)) Q) :
  Ops P ops (⟨some d,.box T x,ty,pos,af,none⟩ :: l) n E (Sym w0 M I0 I m) Q:=
 Ops.valx (λv w'=>∃ b,v=.pointer (some ⟨b,0,none⟩)∧Sym w0 M I0 I (pto b (.cells z T) :: m) w') rfl rfl
  (λa w D h=>⟨.pointer (some ⟨w.heap.size,0,none⟩),w.alloc (.cells z T),by simp[execOp,Instr.box,D.eval O,newVar,newRow,Value.cells],_,rfl,h.alloc _⟩) V J
  (λv a w D ⟨b,U,h⟩=>by subst U; exact k b a w D h)
theorem Ops.box1 {z:Value} (V:ev E x=some z) (O:one z=true) (Z:Nat.blt d n.sz=true) (J:fresh E d=true)
  (k:∀ b,Ops P ops l n ((d,.pointer (some ⟨b,0,none⟩)) :: E) (Sym w0 M I0 I (pto b (.cells #[z] T) :: m)) Q) :
  Ops P ops (⟨some d,.box T x,ty,pos,af,none⟩ :: l) n E (Sym w0 M I0 I m) Q:=
 Ops.valx (λv w'=>∃ b,v=.pointer (some ⟨b,0,none⟩)∧Sym w0 M I0 I (pto b (.cells #[z] T) :: m) w') rfl rfl
  (λa w D h=>⟨.pointer (some ⟨w.heap.size,0,none⟩),w.alloc (.cells #[z] T),by
   have U:z.cells = #[z]:=by cases z <;> first | rfl | cases O
   simp[execOp,Instr.box,D.eval V,newVar,newRow,U],_,rfl,h.alloc _⟩) Z J
  (λv a w D ⟨b,W,h⟩=>by subst W; exact k b a w D h)
theorem Ops.fa {i:Nat} {f:Field} {b off o s:Nat} (h:P.underlying T=some (.struct fs)) (hi:fs[i]? = some f) (W:∀ w,(sizeOf f.type).run P w=.ok (s+1) w)
  (D:ev E x=some (.pointer (some ⟨b,off,none⟩))) (O:off+f.offset=o) {S:World->Prop} (U:Nat.blt d n.sz=true) (V:fresh E d=true) (k:Ops P ops l n ((d,.pointer (some ⟨b,o,none⟩)) :: E) S Q) :
  Ops P ops (⟨some d,.fieldAddr T x i,ty,pos,af,none⟩ :: l) n E S Q:=
 Ops.val rfl rfl (λ_ w J _=>by
  have e:(⟨b,off,none⟩:Addr).add f.offset=⟨b,o,none⟩:=by rw[<-O]; unfold Addr.add; split <;> simp_all
  simp[execOp,J.eval D,Instr.fieldAt,run_underlying h,hi,Instr.sureAddr,fieldPlace,W,e]) U V k
theorem Ops.load1 {b off:Nat} {cs:List Value} {v:Value} (J:∀ w,(isAgg T).run P w=.ok false w) (V:ev E x=some (.pointer (some ⟨b,off,none⟩)))
  (O:Del m (pto b (.cells cs.toArray T' fz)) m') (U:cs[off]? = some v) (hb:Nat.blt d n.sz=true) (D:fresh E d=true) (k:Ops P ops l n ((d,v) :: E) (Sym w0 M I0 I m) Q) :
  Ops P ops (⟨some d,.load T x,ty,pos,af,none⟩ :: l) n E (Sym w0 M I0 I m) Q:=
 Ops.val rfl rfl (λ_ w Z W=>by have h:=(W.del O).pto;simp[execOp,Z.eval V,R4 (P:=P) J ((MB h).trans (by simpa using U))]) hb D k
theorem Ops.loadA {b off s:Nat} {cs vs:List Value} (D:∀ w,(isAgg T).run P w=.ok true w) (Z:∀ w,(sizeOf T).run P w=.ok s w) (O:ev E x=some (.pointer (some ⟨b,off,none⟩)))
  (J:Del m (pto b (.cells cs.toArray T' fz)) m') (hc:Cut cs off vs) (hl:vs.length=s) (W:Nat.blt d n.sz=true) (hf:fresh E d=true) (k:Ops P ops l n ((d,.agg vs.toArray) :: E) (Sym w0 M I0 I m) Q) :
  Ops P ops (⟨some d,.load T x,ty,pos,af,none⟩ :: l) n E (Sym w0 M I0 I m) Q:=
 Ops.val rfl rfl (λ_ w V hs=>by have h:=(hs.del J).pto;simp[execOp,V.eval O,KN (P:=P) D Z hl (λj v U=>(MB h).trans (by simpa using hc.get j v U))]) W hf k
theorem Ops.loadW {b s:Nat} {cs:List Value} (D:∀ w,(isAgg T).run P w=.ok true w) (Z:∀ w,(sizeOf T).run P w=.ok s w) (O:ev E x=some (.pointer (some ⟨b,0,none⟩)))
  (J:Del m (pto b (.cells cs.toArray T' fz)) m') (hl:cs.length=s) (W:Nat.blt d n.sz=true) (hf:fresh E d=true) (k:Ops P ops l n ((d,.agg cs.toArray) :: E) (Sym w0 M I0 I m) Q) :
  Ops P ops (⟨some d,.load T x,ty,pos,af,none⟩ :: l) n E (Sym w0 M I0 I m) Q:=
 Ops.val rfl rfl (λ_ w V hs=>by have h:=(hs.del J).pto;simp[execOp,V.eval O,KN (P:=P) D Z hl (λj _ U=>(MB (off:=0+j) h).trans (by rw[nU]; simpa using U))]) W hf k
theorem setRow_other {g i:Nat} {c:Array Value} (h:i≠g):(w.setRow g c).heap[i]? = w.heap[i]?:=by simp only[World.setRow,Ap0];rw[if_neg (by omega)]
theorem Sym.store {b off:Nat} {cs vs:List Value} (h:Sym w0 M I0 I (Fw.pto b (.cells cs.toArray T' (0,0)) :: m) w) (hp:PutC cs off vs cs') (J:NN vs=true) :
  ∃ w',(storeCells ⟨b,off,none⟩ vs).run P w=.ok () w'∧Sym w0 M I0 I (Fw.pto b (.cells cs'.toArray T' (0,0)) :: m) w':=by
 have⟨O,V⟩:=hp.eq;have D:=h.pto;have U:=run_storeCells_at (P:=P) b off T' vs 0 cs.toArray w D (by simpa using V) (X0 J);refine⟨_,U,h.upd rfl rfl rfl rfl (by simp[World.setRow]) (λ_ hk=>setRow_other hk) ?_⟩;rw[setRow_heap w b _ _ T' _ D];simp[O]
theorem Sym.reAt {A B:HA} (J:At m A m' B) (h:Sym w0 M I0 I m w) {w':World} (U:∀ r,Sym w0 M I0 I (A :: r) w->Sym w0 M I0 I (B :: r) w'):Sym w0 M I0 I m' w':=by have⟨r,D,O⟩:=J.del;exact(U r (h.del D)).undel O
theorem Ops.storeA {b off s:Nat} {cs vs:List Value} (hS:∀ w,(sizeOf T).run P w=.ok s w) (V:ev E x=some (.pointer (some ⟨b,off,none⟩))) (U:ev E y=some (.agg vs.toArray))
  (O:At m (pto b (.cells cs.toArray T' (0,0))) m' (pto b (.cells cs'.toArray T' (0,0)))) (hc:PutC cs off vs cs') (hl:vs.length=s) (J:NN vs=true)
  (k:Ops P ops l n E (Sym w0 M I0 I m') Q):Ops P ops (⟨none,.store T x y,ty,pos,af,none⟩ :: l) n E (Sym w0 M I0 I m) Q:=
 Ops.act rfl rfl (λ_ w D hs=>by have⟨_,W,h3⟩:=O.del;have⟨w',Z,h⟩:=(hs.del W).store (P:=P) hc J;refine⟨w',?_,h.undel h3⟩;simp[execOp,D.eval V,D.eval U,Instr.storeAt,Instr.sureAddr,storeVar,hS,Value.cells,hl,Z]) k
theorem Ops.store1 {b off:Nat} {cs:List Value} {v:Value} (hS:∀ w,(sizeOf T).run P w=.ok 1 w) (W:ev E x=some (.pointer (some ⟨b,off,none⟩))) (V:ev E y=some v)
  (U:At m (pto b (.cells cs.toArray T' (0,0))) m' (pto b (.cells cs'.toArray T' (0,0)))) (hc:PutC cs off [v] cs') (J:one v=true)
  (k:Ops P ops l n E (Sym w0 M I0 I m') Q):Ops P ops (⟨none,.store T x y,ty,pos,af,none⟩ :: l) n E (Sym w0 M I0 I m) Q:=
 Ops.act rfl rfl (λ_ w O hs=>by
  have⟨_,Z,h3⟩:=U.del;have⟨w',hr,h⟩:=(hs.del Z).store (P:=P) hc (by simp[NN,J]);refine⟨w',?_,h.undel h3⟩;have D:v.cells = #[v]:=by cases v <;> first | rfl | cases J
  simp[execOp,O.eval W,O.eval V,Instr.storeAt,Instr.sureAddr,storeVar,hS,D,hr]) k
def ImC (I:IH) (b off:Nat) (cs:List Value):Prop:=∃ c t fz,I b=some (.cells c t fz)∧∀ j v,cs[j]? = some v->c[off+j]? = some v
theorem ImC.mono {I J:IH} {b off:Nat} {cs:List Value} (h:ImC I b off cs) (D:I.le J):ImC J b off cs:=by have⟨c,t,fz,O,U⟩:=h;exact⟨c,t,fz,D _ _ O,U⟩
theorem ImC.cell {b off j:Nat} {cs:List Value} {v:Value} (h:ImC I b off cs) (U:Sym w0 M I0 I m w) (O:cs[j]? = some v):w.cell? ⟨b,off+j,none⟩=some v:=by have⟨_,_,_,D,J⟩:=h;rw[MB (U.imm _ _ D)];exact J j v O
theorem Ops.ld1 {b off o j:Nat} {cs:List Value} {v:Value} (h:∀ w,(isAgg T).run P w=.ok false w) (V:ImC I b off cs) (D:ev E x=some (.pointer (some ⟨b,o,none⟩))) (O:o=off+j) (Z:cs[j]? = some v)
  (U:Nat.blt d n.sz=true) (W:fresh E d=true) (k:Ops P ops l n ((d,v) :: E) (Sym w0 M I0 I m) Q) :
  Ops P ops (⟨some d,.load T x,ty,pos,af,none⟩ :: l) n E (Sym w0 M I0 I m) Q:=
 Ops.val rfl rfl (λ_ w J hs=>by subst O;simp[execOp,J.eval D,R4 (P:=P) h (V.cell hs Z)]) U W k
theorem Ops.ldW {b off s:Nat} {cs:List Value} (h:∀ w,(isAgg T).run P w=.ok true w) (U:∀ w,(sizeOf T).run P w=.ok s w) (V:ImC I b off cs) (D:ev E x=some (.pointer (some ⟨b,off,none⟩)))
  (hl:cs.length=s) (O:Nat.blt d n.sz=true) (W:fresh E d=true) (k:Ops P ops l n ((d,.agg cs.toArray) :: E) (Sym w0 M I0 I m) Q) :
  Ops P ops (⟨some d,.load T x,ty,pos,af,none⟩ :: l) n E (Sym w0 M I0 I m) Q:=
 Ops.val rfl rfl (λ_ w J Z=>by simp[execOp,J.eval D,KN (P:=P) h U hl (λ_ _ hi=>V.cell Z hi)]) O W k
theorem Ops.field1 {i:Nat} {f:Field} {cs:List Value} {v:Value} {S:World->Prop} (D:P.underlying T=some (.struct fs)) (hi:fs[i]? = some f) (J:∀ w,(isAgg f.type).run P w=.ok false w)
  (U:ev E x=some (.agg cs.toArray)) (O:cs[f.offset]? = some v) (W:Nat.blt d n.sz=true) (h:fresh E d=true) (k:Ops P ops l n ((d,v) :: E) S Q) :
  Ops P ops (⟨some d,.field T x i,ty,pos,af,none⟩ :: l) n E S Q:=
 Ops.val rfl rfl (λ_ w V _=>by simp[execOp,V.eval U,Instr.field,run_underlying D,hi,asAgg,part,J,O]) W h k
def cellsOf:Value->List Value
 | .agg cs=>cs.toList
 | v=>[v]
theorem TE (v:Value):v.cells=(cellsOf v).toArray:=by cases v <;> simp[Value.cells,cellsOf]
inductive nW (fs:Array Field) (E:DG):List Value→List (Nat×Operand)→List Value→Prop
 | n {z:List Value}:nW fs E z [] z
 | c {z z' cs vs:List Value} {i:Nat} {x:Operand} {r:List (Nat×Operand)} {f:Field} {v:Value} (hi:fs[i]? = some f) (hx:ev E x=some v) (hv:cellsOf v=vs) (hp:PutC z f.offset vs z') (k:nW fs E z' r cs) :
  nW fs E z ((i,x) :: r) cs
theorem kG:∀ (vs:List Value) (off j:Nat) (z:Array Value),off+j+vs.length<=z.size ->
  ((vs.zipIdx j).foldl (λcs (p:Value×Nat)=>cs.setIfInBounds (off+p.2) p.1) z)=(z.toList.take (off+j)++vs++z.toList.drop (off+j+vs.length)).toArray
 | [],off,j,z,_=>by simp
 | v :: vs,off,j,z,h=>by simp only[nR] at h;rw[List.zipIdx_cons,aN,kG vs off (j+1) _ (by simp; omega)];congr 1;have e:=list_seg_step z.toList (off+j) v vs (by simp; omega);grind
theorem At8 {places:Array (Nat×Nat)} (U:∀ (i:Nat) (f:Field),fs[i]? = some f->∃ s,places[i]? = some (f.offset,s)) {ev':Operand->Value} :
  ∀ {z:List Value} {r:List (Nat×Operand)} {cs:List Value},nW fs E z r cs->(∀ x v,ev E x=some v->ev' x=v) ->
   (∀ (i:Nat) (x:Operand) (f:Field) (s:Nat),(i,x)∈r->fs[i]? = some f->places[i]? = some (f.offset,s)->(cellsOf (ev' x)).length=s) ->
   Instr.fill (places[·]?) z.toArray (r.map λp=>(p.1,ev' p.2))=some cs.toArray:=by
 intro z r cs h
 induction h with
 | n=>intros; rfl
 | @c z z' cs vs i x r f v hi V Z hp k ih=>
  intro W hs;have⟨s,J⟩:=U i f hi;have D:=hs i x f s (by simp) hi J;rw[W x v V,Z] at D;have⟨O,_⟩:=hp.eq;have e1:(ev' x).cells=vs.toArray:=by grind[TE]
  simp only[NM,Instr.fill,J,e1];rw[if_neg (by simp; omega)]
  have e2:vs.toArray.zipIdx.foldl (λcs (p:Value×Nat)=>cs.setIfInBounds (f.offset+p.2) p.1) z.toArray=z'.toArray:=by rw[<-AjM,Ap1];rw[kG vs f.offset 0 z.toArray (by simp; omega)];simp[O]
  grind
def AaW (P:Program) (E:DG) (fs:Array Field):List (Nat×Operand)->Prop
 | []=>True
 | p :: r=>(∃ f v,fs[p.1]? = some f∧ev E p.2=some v∧P.cellsOf f.type=(cellsOf v).length)∧AaW P E fs r
theorem AhB {fs:List Field}:∀ w,(∀ f∈fs,(P.info? f.type).isSome=true) ->
  (fs.mapM λf=>(do pure (f.offset,<-sizeOf f.type):Sem (Nat×Nat))).run P w=.ok (fs.map λf=>(f.offset,P.cellsOf f.type)) w:=by
 induction fs with
 | nil=>intro w _; rfl
 | cons f fs J=>
  intro w h
  have D:(sizeOf f.type).run P w=.ok (P.cellsOf f.type) w:=by have⟨_,hi⟩:=Option.isSome_iff_exists.1 (h f (by simp));simp[sizeOf,typeInfo,hi,Program.cellsOf]
  simp_all
theorem Ae3 (h:∀ f∈fs.toList,(P.info? f.type).isSome=true) (w:World) :
  (fs.mapM λf=>(do pure (f.offset,<-sizeOf f.type):Sem (Nat×Nat))).run P w=.ok (fs.toList.map λf=>(f.offset,P.cellsOf f.type)).toArray w:=by
 rw[AvB];have:=AhB (P:=P) w h;simp_all
theorem Ops.build {S:World->Prop} {z:List Value} {h:List (Nat×Operand)} {cs:List Value} (Z:∀ w,(zeroValue T).run P w=.ok (.agg z.toArray) w) (U:P.underlying T=some (.struct fs))
  (hI:(P.fieldsOf T).toList.all (λf=>(P.info? f.type).isSome)=true) (W:nW fs E z h cs) (hS:AaW P E fs h) (hb:Nat.blt d n.sz=true) (hf:fresh E d=true) (k:Ops P ops l n ((d,.agg cs.toArray) :: E) S Q) :
  Ops P ops (⟨some d,.build T h.toArray,ty,pos,af,none⟩ :: l) n E S Q:=
 Ops.val rfl rfl (λa w V _=>by
  have D:=At8 (places:=(fs.toList.map λf=>(f.offset,P.cellsOf f.type)).toArray) (E:=E) (ev':=a.eval) (λi f hi=>⟨P.cellsOf f.type,by
    have:fs.toList[i]? = some f:=by simpa using hi
    simp[this]⟩) W (λx v hx=>V.eval hx) (λi x f s J hi _=>by
    have hs:P.cellsOf f.type=s:=by grind
    rw[<-hs];clear W k
    induction h with
    | nil=>cases J
    | cons p r ih=>
     have⟨⟨_,v,h1,h2,h3⟩,h4⟩:=hS
     cases J with
     | head=>rw[V.eval h2]; rw[hi] at h1; cases h1; exact h3.symm
     | tail _ J=>exact ih h4 J)
  have O:∀ f∈fs.toList,(P.info? f.type).isSome=true:=by
   have e0:P.fieldsOf T=fs:=by simp[Program.fieldsOf,U]
   grind
  simp only[execOp,Instr.build,Sem.run_bind,Z,Result.andThen_ok,run_underlying U,Value.cells,Ae3 O];have e:(Array.map (λ(x:Nat×Operand)=>(x.1,a.eval x.2)) h.toArray).toList=h.map λp=>(p.1,a.eval p.2):=by simp
  rw[show(Array.map (λx=>match x with | (i,x)=>(i,a.eval x)) h.toArray).toList=h.map λp=>(p.1,a.eval p.2) from e,D];simp) hb hf k
end
section
variable {w0 w:World} {M:Nat→Prop} {I0 I:IH} {m m':List HA}
variable {P:Program} {n:FrK} {E:DG} {Q:Exit→Act→World→Prop} {ops:Array Oper} {l:List Oper}
variable {d ty:Nat} {pos:String} {af:Array Edge} {T e:TypeId} {x y:Operand}
variable {T':TypeId}
structure EC (α:Type) where
 sz:Nat
 rep:IH→List Value→α→Prop
 mono:∀ {I J:IH} {cs:List Value} {x:α},I.le J→rep I cs x→rep J cs x
 len:∀ {I:IH} {cs:List Value} {x:α},rep I cs x→cs.length=sz
 one:∀ {I:IH} {cs:List Value} {x:α},rep I cs x→NN cs=true
def KO {α:Type} (sz:Nat) (enc:α->List Value) (h:∀ x,(enc x).length=sz∧NN (enc x)=true):EC α where
 sz:=sz
 rep _ cs x:=cs=enc x
 mono _ h:=h
 len h':=by rw[h']; exact(h _).1
 one h':=by rw[h']; exact(h _).2
variable {α:Type} {El:EC α} {xs ys:List α} {a:Option Addr} {cap:Nat}
def RepSl (El:EC α) (I:IH) (a:Option Addr) (cap:Nat) (xs:List α):Prop:=
 xs.length<=cap∧∀ i x,xs[i]? = some x->∃ b off cs,a=some ⟨b,off,none⟩∧ImC I b (off+i*El.sz) cs∧El.rep I cs x
theorem RepSl.mono {J:IH} (h:RepSl El I a cap xs) (D:I.le J):RepSl El J a cap xs:=
 ⟨h.1,λi x U=>let ⟨b,off,cs,O,V,W⟩:=h.2 i x U; ⟨b,off,cs,O,V.mono D,El.mono D W⟩⟩
theorem RepSl.nil (I:IH) (a:Option Addr) (cap:Nat):RepSl El I a cap []:=⟨sU _,λ_ _ h=>by simp at h⟩
def Y7 (El:EC α):EC (List α) where
 sz:=1
 rep I cs xs:=∃ a cap,cs=[.slice a xs.length cap]∧RepSl El I a cap xs
 mono hle:=λ⟨a,cap,h1,h2⟩=>⟨a,cap,h1,h2.mono hle⟩
 len:=λ⟨a,cap,h1,_⟩=>by rw[h1]; rfl
 one:=λ⟨a,cap,h1,_⟩=>by rw[h1]; rfl
def OwnSl (El:EC α) (T:TypeId) (a:Option Addr) (cap:Nat) (xs:List α):HA where
 holds I h:=(a=none∧xs=[]∧cap=0)∨∃ b c,a=some ⟨b,0,none⟩∧h b=some (.cells c T (0,0))∧xs.length<=cap∧c.size=cap*El.sz ∧
  ∀ i x,xs[i]? = some x->∃ cs,El.rep I cs x∧∀ j v,cs[j]? = some v->c[i*El.sz+j]? = some v
 mono:=λhI hh=>fun
  | .inl h=>.inl h
  | .inr ⟨b,c,h1,h2,h3,h4,h5⟩=>.inr ⟨b,c,h1,hh _ _ h2,h3,h4,λi x hx=>let ⟨cs,g1,g2⟩:=h5 i x hx; ⟨cs,El.mono hI g1,g2⟩⟩
theorem Sym.own0 (h:Sym w0 M I0 I m w) (El:EC α) (T:TypeId):Sym w0 M I0 I (OwnSl El T none 0 [] :: m) w:=by have⟨O,hi,J,k,V,hk,U,D⟩:=h;exact⟨O,hi,J,k,⟨λ_=>none,k,λ_=>.inl rfl,(λ_ _ x=>nomatch x),IH.le.refl _,.inl ⟨rfl,rfl,rfl⟩,V⟩,hk,U,D⟩
theorem Sym.pubSl (h:Sym w0 M I0 I m w) (hA:Del m (OwnSl El T a cap xs) m'):∃ J,I.le J∧RepSl El J a cap xs∧Sym w0 M I0 J m' w:=by
 have⟨J,_,D,ha,hk,hs⟩:=(h.del hA).publish;refine⟨J,D,?_,hs⟩;rcases ha with⟨U,O,V⟩ | ⟨b,c,U,O,V,h4,W⟩
 . subst O; exact .nil _ _ _
 . refine⟨V,λi x hx=>?_⟩;have⟨cs,g1,Z⟩:=W i x hx;exact⟨b,0,cs,U,⟨c,T,(0,0),hk _ _ O,λj v hj=>by rw[nU]; exact Z j v hj⟩,El.mono D g1⟩
theorem Ops.len {S:World->Prop} {k:Nat} {h:Array TypeId} (U:P.underlying T=some (.slice e)) (D:h[0]? = some T) (V:ev E x=some (.slice a k cap)) (Z:Nat.blt d n.sz=true) (O:fresh E d=true)
  (J:Ops P ops l n ((d,.int .i64 (k:Int)) :: E) S Q):Ops P ops (⟨some d,.call ⟨.builtin .len,#[x],h⟩,ty,pos,af,none⟩ :: l) n E S Q:=
 Ops.val rfl rfl (λ_ _ W _=>by simp[execOp,resolve,invoke,builtin,Builtin.len_,W.eval V,D,run_underlying U,goInt]) Z O J
theorem Ops.capOf {S:World->Prop} {k:Nat} {h:Array TypeId} (U:P.underlying T=some (.slice e)) (D:h[0]? = some T) (V:ev E x=some (.slice a k cap)) (Z:Nat.blt d n.sz=true) (O:fresh E d=true)
  (J:Ops P ops l n ((d,.int .i64 (cap:Int)) :: E) S Q):Ops P ops (⟨some d,.call ⟨.builtin .cap,#[x],h⟩,ty,pos,af,none⟩ :: l) n E S Q:=
 Ops.val rfl rfl (λ_ _ W _=>by simp[execOp,resolve,invoke,builtin,Builtin.cap_,W.eval V,D,run_underlying U,goInt]) Z O J
theorem Ops.ixa {S:World->Prop} {k s off b:Nat} {q:IntKind} {i:Int} (J:P.underlying T=some (.slice e)) (hs:∀ w,(sizeOf e).run P w=.ok s w) (U:ev E x=some (.slice a k cap)) (V:a=some ⟨b,off,none⟩)
  (O:ev E y=some (.int q i)) (h0:0<=i) (hk:i<k) (W:Nat.blt d n.sz=true) (Z:fresh E d=true) (D:Ops P ops l n ((d,.pointer (some ⟨b,off+i.toNat*s,none⟩)) :: E) S Q) :
  Ops P ops (⟨some d,.indexAddr T x y,ty,pos,af,none⟩ :: l) n E S Q:=
 Ops.val rfl rfl (λ_ w h _=>by
  subst V;have e1:(⟨b,off,none⟩:Addr).add (i.toNat*s)=⟨b,off+i.toNat*s,none⟩:=by unfold Addr.add; split <;> simp_all
  simp only[execOp,Instr.indexAt,h.eval U,h.eval O,asIntOf,Sem.run_bind,Sem.run_pure,Result.andThen_ok,run_underlying J,h0,hk,and_self,if_true,hs,e1]) W Z D
theorem OwnSl.cell {enc:α->List Value} {s:Nat} {V:∀ x,(enc x).length=s∧NN (enc x)=true} {b:Nat} (h:Sym w0 M I0 I m w) (U:Del m (OwnSl (KO s enc V) T' (some ⟨b,0,none⟩) cap xs) m') {i j:Nat} {v:α} {u:Value}
   (hi:xs[i]? = some v) (W:(enc v)[j]? = some u):w.cell? ⟨b,i*s+j,none⟩=some u:=by
 have⟨_,ha,hk⟩:=(h.del U).get;rcases ha with⟨D,_⟩ | ⟨b',c,D,Z,h3,h4,J⟩
 . cases D
 . cases D;have⟨_,g1,O⟩:=J i v hi;cases g1;rw[MB (hk _ _ Z)];exact O j u W
theorem Ops.lo1 {enc:α->List Value} {s:Nat} {O:∀ x,(enc x).length=s∧NN (enc x)=true} {b o i j:Nat} {v:α} {u:Value} (h:∀ w,(isAgg T).run P w=.ok false w)
  (D:Del m (OwnSl (KO s enc O) T' (some ⟨b,0,none⟩) cap xs) m') (hi:xs[i]? = some v) (J:ev E x=some (.pointer (some ⟨b,o,none⟩))) (V:o=i*s+j) (U:(enc v)[j]? = some u)
  (W:Nat.blt d n.sz=true) (Z:fresh E d=true) (k:Ops P ops l n ((d,u) :: E) (Sym w0 M I0 I m) Q):Ops P ops (⟨some d,.load T x,ty,pos,af,none⟩ :: l) n E (Sym w0 M I0 I m) Q:=
 Ops.val rfl rfl (λ_ w hc hs=>by subst V; simp[execOp,hc.eval J,R4 (P:=P) h (OwnSl.cell hs D hi U)]) W Z k
theorem Ops.loA {enc:α->List Value} {s D:Nat} {V:∀ x,(enc x).length=s∧NN (enc x)=true} {b o i j:Nat} {v:α} {vs:List Value} (J:∀ w,(isAgg T).run P w=.ok true w)
  (hS:∀ w,(sizeOf T).run P w=.ok D w) (O:Del m (OwnSl (KO s enc V) T' (some ⟨b,0,none⟩) cap xs) m') (hi:xs[i]? = some v) (U:ev E x=some (.pointer (some ⟨b,o,none⟩))) (ho:o=i*s+j)
  (W:Cut (enc v) j vs) (hl:vs.length=D) (hb:Nat.blt d n.sz=true) (hf:fresh E d=true) (k:Ops P ops l n ((d,.agg vs.toArray) :: E) (Sym w0 M I0 I m) Q) :
  Ops P ops (⟨some d,.load T x,ty,pos,af,none⟩ :: l) n E (Sym w0 M I0 I m) Q:=
 Ops.val rfl rfl (λ_ w hc hs=>by subst ho;simp[execOp,hc.eval U,KN (P:=P) J hS hl (λZ v' h=>by rw[yT]; exact OwnSl.cell hs O hi (W.get Z v' h))]) hb hf k
theorem OwnSl.put {El:EC α} {b:Nat} {i j:Nat} {v v':α} {vs:List Value} {r:List HA} (a4:Sym w0 M I0 I (OwnSl El T' (some ⟨b,0,none⟩) cap xs :: r) w)
   (hi:xs[i]? = some v) (hp:∀ cs,El.rep I cs v->∃ J,PutC cs j vs J∧El.rep I J v') (h1:NN vs=true) :
   ∃ w',(storeCells ⟨b,i*El.sz+j,none⟩ vs).run P w=.ok () w'∧Sym w0 M I0 I (OwnSl El T' (some ⟨b,0,none⟩) cap (xs.set i v') :: r) w':=by
 have⟨hb,a8,hn,k,⟨k1,k2,hd',hl1,hl2,ha,hs'⟩,hk,hdj,hm⟩:=a4;rcases ha with⟨W,_⟩ | ⟨b',c,W,h2,h3,h4,h5⟩
 . cases W
 . cases W;have a2:Sym w0 M I0 I (Fw.pto b (.cells c T' (0,0)) :: r) w:=⟨hb,a8,hn,k,⟨k1,k2,hd',hl1,hl2,h2,hs'⟩,hk,hdj,hm⟩;have⟨cs,g1,g2⟩:=h5 i v hi;have⟨J,a9,a3⟩:=hp cs g1;have⟨he,_⟩:=a9.eq;have b0:=El.len g1;have a6:i<xs.length:=(List.getElem?_eq_some_iff.1 hi).1
   have c0:i*El.sz+El.sz<=cap*El.sz:=by
     have:(i+1)*El.sz<=cap*El.sz:=W9 _ (by omega)
     rwa [WB,xB] at this
   have hr:=run_storeCells_at (P:=P) b (i*El.sz+j) T' vs 0 c w a2.pto (by omega) (X0 h1);refine⟨_,hr,?_⟩;have a7:=a2.upd (o':=.cells (c.toList.take (i*El.sz+j+0)++vs++c.toList.drop (i*El.sz+j+0+vs.length)).toArray T' (0,0)) (w':=w.setRow b _) rfl rfl rfl rfl (by simp[World.setRow]) (λq hq=>Fw.setRow_other hq) (setRow_heap w b _ _ T' _ a2.pto);refine a7.weaken λq hq=>.inr ⟨b,_,rfl,hq,by simpa using h3,?_,?_⟩
   . simp; omega
   . intro h x2 O;by_cases e2:i=h
     . subst e2;rw[AmB a6] at O;cases O;refine⟨J,a3,λU u D=>?_⟩;rw[he] at D;simp only[eY,AdO];rcases ZZ U j with h6 | h6
       . rw[nL,kA (by simp; omega)] at D;rw[nL,kA (by simp; omega),wZ,if_pos (by omega)];rw[wZ,if_pos h6] at D;simpa using g2 U u D
       . rcases ZZ U (j+vs.length) with h7 | h7
         . rw[kA (by simp; omega),wW (by simp; omega)] at D ⊢;simp only[QY,Ah2] at D ⊢;rw[<-D]; congr 1; omega
         . rw[wW (by simp; omega),AoS] at D ⊢;simp only[kC,QY,Ah2] at D ⊢;have:=g2 U u (by rw[<-D]; congr 1; omega);rw[<-At3] at this;rw[<-this]; congr 1; omega
     . rw[AaS e2] at O;have⟨a5,g3,g4⟩:=h5 h x2 O;refine⟨a5,g3,λU u D=>?_⟩;have b1:U<El.sz:=by rw[<-El.len g3]; exact(List.getElem?_eq_some_iff.1 D).1
       have Z:=g4 U u D;rw[<-At3] at Z;simp only[eY,AdO];rcases Nat.lt_or_gt_of_ne e2 with h9 | h9
       . have V:(i+1)*El.sz<=h*El.sz:=W9 _ h9;rw[WB,xB] at V;rw[wW (by simp; omega),AoS,<-Z];simp only[kC,QY,Ah2];congr 1; omega
       . have V:(h+1)*El.sz<=i*El.sz:=W9 _ h9;rw[WB,xB] at V;rw[nL,kA (by simp; omega),wZ,if_pos (by omega),Z]
theorem Ops.stO1 {enc:α→List Value} {s:Nat} {V:∀ x,(enc x).length=s∧NN (enc x)=true} {b o i j:Nat} {v v':α} {u:Value} (hS:∀ w,(sizeOf T).run P w=.ok 1 w)
  (Z:At m (OwnSl (KO s enc V) T' (some ⟨b,0,none⟩) cap xs) m' (OwnSl (KO s enc V) T' (some ⟨b,0,none⟩) cap (xs.set i v'))) (hi:xs[i]? = some v) (hx:ev E x=some (.pointer (some ⟨b,o,none⟩))) (ho:o=i*s+j)
  (hy:ev E y=some u) (hp:PutC (enc v) j [u] (enc v')) (U:Fw.one u=true) (k:Ops P ops l n E (Sym w0 M I0 I m') Q):Ops P ops (⟨none,.store T x y,ty,pos,af,none⟩ :: l) n E (Sym w0 M I0 I m) Q:=
 Ops.act rfl rfl (fun _ w W hs=>by
  subst ho
  obtain ⟨_,h2,h3⟩:=Z.del
  obtain ⟨w',hr,h⟩:=OwnSl.put (P:=P) (hs.del h2) hi (fun _ O=>by cases O; exact ⟨_,hp,rfl⟩) (by simp [NN,U])
  refine ⟨w',?_,h.undel h3⟩
  have J:u.cells = #[u]:=by cases u <;> first | rfl | cases U
  have D:(storeCells ⟨b,i*s+j,none⟩ [u]).run P w=.ok () w':=hr
  simp [execOp,W.eval hx,W.eval hy,Instr.storeAt,Instr.sureAddr,storeVar,hS,J,D]) k
theorem Ops.stOA {enc:α→List Value} {s U:Nat} {V:∀ x,(enc x).length=s∧NN (enc x)=true} {b o i j:Nat} {v v':α} {h:List Value} (hS:∀ w,(sizeOf T).run P w=.ok U w)
  (hA:At m (OwnSl (KO s enc V) T' (some ⟨b,0,none⟩) cap xs) m' (OwnSl (KO s enc V) T' (some ⟨b,0,none⟩) cap (xs.set i v'))) (hi:xs[i]? = some v) (hx:ev E x=some (.pointer (some ⟨b,o,none⟩))) (ho:o=i*s+j)
  (hy:ev E y=some (.agg h.toArray)) (hp:PutC (enc v) j h (enc v')) (hl:h.length=U) (Z:NN h=true) (k:Ops P ops l n E (Sym w0 M I0 I m') Q):Ops P ops (⟨none,.store T x y,ty,pos,af,none⟩ :: l) n E (Sym w0 M I0 I m) Q:=
 Ops.act rfl rfl (fun _ w W hs=>by
  subst ho
  obtain ⟨_,h2,h3⟩:=hA.del
  obtain ⟨w',hr,D⟩:=OwnSl.put (P:=P) (hs.del h2) hi (fun _ O=>by cases O; exact ⟨_,hp,rfl⟩) Z
  refine ⟨w',?_,D.undel h3⟩
  have J:(storeCells ⟨b,i*s+j,none⟩ h).run P w=.ok () w':=hr
  simp [execOp,W.eval hx,W.eval hy,Instr.storeAt,Instr.sureAddr,storeVar,hS,Value.cells,hl,J]) k
end
section
variable {w0 w:World} {M:Nat→Prop} {I0 I:IH} {m m':List HA}
variable {P:Program} {n:FrK} {E:DG} {Q:Exit→Act→World→Prop} {ops:Array Oper} {l:List Oper}
variable {d ty:Nat} {pos:String} {af:Array Edge} {T e:TypeId} {x y:Operand}
variable {α:Type} {El:EC α} {xs ys:List α} {a:Option Addr} {cap:Nat}
/-! ### s[lo:hi] -/
variable {T' sT e':TypeId} {zc:Value}
def oev (E:DG):Option Operand->Option (Option Value)
 | none=>some none
 | some x=>match ev E x with | some v=>some (some v) | none=>none
theorem NO {c:Act} (D:Ok n E c) {x:Option Operand} {v:Option Value} (h:oev E x=some v):x.map c.eval=v:=by
 cases x with
 | none=>simp[oev] at h; simp[h]
 | some x=>
  simp only[oev] at h
  cases J:ev E x with
  | none=>rw[J] at h; cases h
  | some u=>rw[J] at h; cases h; simp[D.eval J]
theorem RepSl.slice (h:RepSl El I a cap xs) {lo hi:Nat} (V:lo<=hi) (W:hi<=xs.length):RepSl El I (if cap=lo then a else a.map (·.add (lo*El.sz))) (cap - lo) ((xs.take hi).drop lo):=by
 have Z:=h.1;refine⟨by simp; omega,λ_ _ D=>?_⟩;rw[AoS,wZ] at D;split at D
 . rename_i O;have⟨b,off,cs,J,_,U⟩:=h.2 _ _ D
   have:¬cap=lo:=by omega
   rw[if_neg this];refine⟨b,off+lo*El.sz,cs,?_,?_,U⟩
   . rw[J]; simp only[Ah5,Addr.add]; split <;> simp_all
   all_goals grind
 . cases D
theorem sW {lo hi:Option Value} {L H k s:Nat} (hT:P.underlying T=some (.slice e)) (hs:∀ w,(sizeOf e).run P w=.ok s w) (h1:L<=H) (h2:H<=k) (hk:k<=cap)
  (h:lo=none∧L=0∨∃ q i,lo=some (.int q i)∧0<=i∧i.toNat=L) (D:hi=none∧H=k∨∃ q i,hi=some (.int q i)∧0<=i∧i.toNat=H) (w:World) :
  (Instr.sliceAt T (.slice a k cap) lo hi none).run P w=.ok (.slice (if cap=L then a else a.map (·.add (L*s))) (H - L) (cap - L)) w:=by
 have J:(Instr.sliceBounds true k cap lo hi none).run P w=.ok (L,H,cap) w:=by
  simp only[Instr.sliceBounds];rcases D with⟨rfl,rfl⟩ | ⟨q,i,rfl,Z,W⟩ <;> rcases h with⟨rfl,rfl⟩ | ⟨q',V,rfl,O,U⟩
  . simp
  . have:V<=(H:Int):=by omega
    simp[Instr.sliceBound,asIntOf,O,this,U]
  . have:i<=(cap:Int):=by omega
    simp[Instr.sliceBound,asIntOf,Z,this,W]
  . have g1:i<=(cap:Int):=by omega
    have g2:V<=(H:Int):=by omega
    simp[Instr.sliceBound,asIntOf,Z,g1,O,g2,W,U]
 simp only[Instr.sliceAt,Sem.run_bind,run_underlying hT,Result.andThen_ok,Instr.slice,J,hs,Sem.run_pure]
def RepCs (El:EC α) (I:IH) (src:List Value) (ys:List α):Prop:=
 src.length=ys.length*El.sz∧(∀ i y,ys[i]? = some y->∃ cs,El.rep I cs y∧∀ j v,cs[j]? = some v->src[i*El.sz+j]? = some v)∧NN src=true
theorem Ae4 {a b:List Value} (h:NN a=true) (k:NN b=true):NN (a++b)=true:=by
 induction a with
 | nil=>exact k
 | cons v a D=>simp only[NN,aM,nS] at h ⊢; exact⟨h.1,D h.2⟩
theorem RepCs.nil:RepCs El I [] ([]:List α):=⟨by simp,λ_ _ h=>by simp at h,rfl⟩
theorem RepCs.cons {cs src:List Value} {v:α} {vs:List α} (h:El.rep I cs v) (k:RepCs El I src vs):RepCs El I (cs++src) (v :: vs):=by
 have O:=El.len h;refine⟨by simp[k.1,O,WB,yV],λi y D=>?_,Ae4 (El.one h) k.2.2⟩
 cases i with
 | zero=>
  grind
 | succ i=>
  have⟨_,_,_⟩:=k.2.1 i y (by simpa using D);grind
theorem RepCs.one {cs:List Value} {v:α} (h:El.rep I cs v):RepCs El I cs [v]:=by have:=RepCs.cons h (RepCs.nil (El:=El) (I:=I)); grind
def Src (P:Program) (El:EC α) (I:IH) (S:World->Prop) (v:Value) (ys:List α):Prop:=
 (∃ b k c,v=.slice b k c∧k=ys.length)∧∃ src,RepCs El I src ys∧∀ w,S w->∀ w':World,w'.heap=w.heap->(Builtin.firstCells El.sz ys.length v).run P w'=.ok src.toArray w'
theorem Src.imm {k:Nat} (hR:RepSl El I a cap ys) (hk:k=ys.length):Src P El I (Sym w0 M I0 I m) (.slice a k cap) ys:=by
 subst hk;refine⟨⟨_,_,_,rfl,rfl⟩,?_⟩
 suffices H:∀ (O:List α) (o:Nat),(∀ i x,O[i]? = some x->∃ b off cs,a=some ⟨b,off,none⟩∧ImC I b (off+(o+i)*El.sz) cs∧El.rep I cs x) ->
    ∃ src,RepCs El I src O∧∀ w,Sym w0 M I0 I m w->∀ j v,src[j]? = some v->∃ b off,a=some ⟨b,off,none⟩∧w.cell? ⟨b,off+o*El.sz+j,none⟩=some v by
  have⟨src,J,h2⟩:=H ys 0 (λi x W=>by simpa using hR.2 i x W);refine⟨src,J,λw1 Z w a3=>?_⟩
  cases a with
  | none=>
    cases ys with
    | nil=>have:=J.1; simp at this; subst this; simp[Builtin.firstCells]
    | cons y ys=>have⟨_,_,_,g,_⟩:=hR.2 0 y (by simp); cases g
  | some p=>
    simp only[Builtin.firstCells];rw[<-J.1];refine run_loadCells_list w p src λj v U=>?_;have⟨b,off,V,D⟩:=h2 w1 Z j v U;have a2:w.cell? ⟨b,off+0*El.sz+j,none⟩=some v:=by simp only[World.cell?,a3]; exact D
    clear D; have D:=a2;cases V;rw[Ae0,eY] at D;have e2:(⟨b,off,none⟩:Addr).add j=⟨b,off+j,none⟩:=by unfold Addr.add; split <;> simp_all
    rw[e2]; exact D
 intro O
 induction O with
 | nil=>exact λo _=>⟨[],.nil,λw _ j v h=>by simp at h⟩
 | cons z O ih=>
  intro o h
  have⟨src,J,h2⟩:=ih (o+1) (λi x W=>by
    have:=h (i+1) x (by simpa using W)
    rwa [show o+(i+1)=o+1+i by omega] at this)
  have⟨b,off,cs,V,D,g3⟩:=h 0 z (by simp);refine⟨cs++src,.cons g3 J,λw Z j v U=>?_⟩;have hl:=El.len g3;rcases ZZ j cs.length with h4 | h4
  . rw[kA h4] at U;exact⟨b,off,V,by simpa using D.cell Z U⟩
  all_goals grind
theorem Src.box {b:Nat} {src:List Value} {k:Nat} (O:Del m (Fw.pto b (.cells src.toArray T' (0,0))) m') (J:RepCs El I src ys) (hk:k=ys.length) :
  Src P El I (Sym w0 M I0 I m) (.slice (some ⟨b,0,none⟩) k cap) ys:=by
 subst hk;refine⟨⟨_,_,_,rfl,rfl⟩,src,J,λ_ V w D=>?_⟩;simp only[Builtin.firstCells];rw[<-J.1];refine run_loadCells_list w _ src λj _ U=>?_;have e:(⟨b,0,none⟩:Addr).add j=⟨b,j,none⟩:=by unfold Addr.add; split <;> simp_all
 have h:=(V.del O).pto;rw[<-D] at h;rw[e,MB h]; simpa using U
theorem AaX {z:Array Value} {s:Nat} (k:Nat) (h:z.size=s):(Builtin.zeroCells z k).size=k*s:=by simp[Builtin.zeroCells,h]
theorem MC {ty':TypeId} {k kv cv:Nat} {bv:Option Addr} {src:Array Value} {s:Nat} {w':World} (U:P.underlying sT=some (.slice e)) (O:P.underlying T'=some (.slice e')) (J:∀ w,(sizeOf e).run P w=.ok s w)
  (h:k+kv<=cap) (D:(Builtin.firstCells s kv (.slice bv kv cv)).run P w=.ok src w) (W:∀ p,a=some p->(storeCells (p.add (k*s)) src.toList).run P w=.ok () w') (Z:a=none->w'=w) :
  (Builtin.append_ #[sT,T'] ty' #[.slice a k cap,.slice bv kv cv]).run P w=.ok (.slice a (k+kv) cap) w':=by
 have V:∀ w,(Builtin.lenOf (.slice bv kv cv)).run P w=.ok kv w:=λw=>rfl
 cases a with
 | none=>simp[Builtin.append_,run_underlying U,run_underlying O,J,V,h,D,Z rfl]
 | some p=>simp[Builtin.append_,run_underlying U,run_underlying O,J,V,h,D,W p rfl]
theorem sX {ty':TypeId} {k kv cv:Nat} {bv:Option Addr} {src old:Array Value} {s B:Nat} {i:TypeInfo} (hT:P.underlying sT=some (.slice e)) (a2:P.underlying T'=some (.slice e')) (hi:P.info? e=some i)
  (hs:i.size=s) (hB:i.bytes=B) (hz:i.zero=some zc) (h:¬k+kv<=cap) (D:(k+kv)*B<=140737488355328) (a4:((k+kv:Nat):Int)<=9223372036854775807)
  (U:∀ w':World,w'.heap=w.heap->(Builtin.firstCells s k (.slice a k cap)).run P w'=.ok old w') (J:∀ w':World,w'.heap=w.heap->(Builtin.firstCells s kv (.slice bv kv cv)).run P w'=.ok src w') :
  ∃ c Z,k+kv<=c∧w.drawn<=Z∧(Builtin.append_ #[sT,T'] ty' #[.slice a k cap,.slice bv kv cv]).run P w =
   .ok (.slice (some ⟨w.heap.size,0,none⟩) (k+kv) c) (({ w with drawn:=Z }:World).alloc (.cells (old++src++Builtin.zeroCells zc.cells (c - (k+kv))) e)):=by
 have V:∀ w,(sizeOf e).run P w=.ok s w:=λw=>by simp[sizeOf,typeInfo,hi,hs]
 have O:∀ w,(typeInfo e).run P w=.ok i w:=λw=>by simp[typeInfo,hi]
 have a3:∀ w,(zeroValue e).run P w=.ok zc w:=λw=>by simp[zeroValue,O,hz]
 have a5:=growslice_fits (Nat.lt_of_not_le h) D;have hl:∀ w,(Builtin.lenOf (.slice bv kv cv)).run P w=.ok kv w:=λw=>rfl;have g1:¬(281474976710656<Builtin.nextslicecap (k+kv) cap*B):=by omega
 have g2:¬(9223372036854775807<(k:Int)+(kv:Int)):=by omega
 have hq:(Question.appendCap (k+kv) cap e).forced=false:=rfl;refine⟨(Question.appendCap (k+kv) cap e).cut (w.tape w.drawn (Question.appendCap (k+kv) cap e)),w.drawn+1,Nat.le_add_right _ _,Ak1 _,?_⟩;have W:IntKind.i64.max=9223372036854775807:=rfl;have ho:=U w.drew rfl;have hr:=J w.drew rfl;simp only[Builtin.append_,AdO,AoQ,AoX,Sem.run_bind,run_underlying hT,run_underlying a2,Result.andThen_ok,Sem.run_pure,V,hl,h,if_false,AaU,O,hB,g1,g2,false_and,false_or,W,ApC];simp[run_choose,hq,ho,hr,a3,newRow]
theorem Sym.appendNew {ty':TypeId} {r:List HA} {B:Nat} {i:TypeInfo} (a4:Sym w0 M I0 I r w)
   (hT:P.underlying sT=some (.slice e)) (a6:P.underlying T'=some (.slice e')) (hi:P.info? e=some i) (b0:i.size=El.sz) (hB:i.bytes=B) (hz:i.zero=some zc) (b1:zc.cells.size=El.sz)
   {bv:Option Addr} {cv:Nat} {src:List Value} (J:RepCs El I src ys) (c1:∀ w':World,w'.heap=w.heap->(Builtin.firstCells El.sz ys.length (.slice bv ys.length cv)).run P w'=.ok src.toArray w')
   (U:(xs.length+ys.length)*B<=140737488355328) (a5:B=0->xs.length+ys.length<=140737488355328) (O:¬xs.length+ys.length<=cap)
   (c0:∃ old:List Value,(∀ w':World,w'.heap=w.heap->(Builtin.firstCells El.sz xs.length (.slice a xs.length cap)).run P w'=.ok old.toArray w')∧old.length=xs.length*El.sz ∧
      ∀ i x,xs[i]? = some x->∃ cs,El.rep I cs x∧∀ j v,cs[j]? = some v->old[i*El.sz+j]? = some v) :
   ∃ V D w',(Builtin.append_ #[sT,T'] ty' #[.slice a xs.length cap,.slice bv ys.length cv]).run P w=.ok (.slice V (xs++ys).length D) w'∧Sym w0 M I0 I (OwnSl El e V D (xs++ys) :: r) w':=by
 rw[kC];have⟨old,a8,a9,_⟩:=c0
 have a2:((xs.length+ys.length:Nat):Int)<=9223372036854775807:=by
   by_cases hB0:B=0
   . have:=a5 hB0; omega
   . have:xs.length+ys.length<=(xs.length+ys.length)*B:=Nat.le_mul_of_pos_right _ (Nat.pos_of_ne_zero hB0);omega
 have⟨c,dr,hc,a7,hr⟩:=sX (w:=w) (ty':=ty') (bv:=bv) (cv:=cv) hT a6 hi b0 hB hz O U a2 a8 c1;refine⟨_,_,_,hr,?_⟩;refine((a4.drew dr a7).alloc _).weaken λ_ hq=>.inr ⟨_,_,rfl,hq,by simpa using hc,?_,?_⟩
 . have a3:=AaX (c - (xs.length+ys.length)) b1;simp only[Array.size_append,Ap3,a9,J.1,a3];rw[<-WB,<-WB]; congr 1; omega
 . intro h x2 Z;rcases ZZ h xs.length with W | W
   . grind
   . rw[wW W] at Z;have⟨cs,g3,g4⟩:=J.2.1 _ x2 Z;refine⟨cs,g3,λj u hj=>?_⟩;have h7:=g4 j u hj;have h8:=(List.getElem?_eq_some_iff.1 h7).1;have e3:h*El.sz=xs.length*El.sz+(h - xs.length)*El.sz:=by rw[<-WB]; congr 1; omega
     grind
theorem Sym.append {ty':TypeId} {v:Value} {r:List HA} {B:Nat} {i:TypeInfo} (h:Sym w0 M I0 I (OwnSl El e a cap xs :: r) w)
   (hT:P.underlying sT=some (.slice e)) (a5:P.underlying T'=some (.slice e')) (hi:P.info? e=some i) (b1:i.size=El.sz) (hB:i.bytes=B) (hz:i.zero=some zc) (d7:zc.cells.size=El.sz)
   (hv:∃ b k c,v=.slice b k c∧k=ys.length) {src:List Value} (D:RepCs El I src ys) (a4:∀ w':World,w'.heap=w.heap->(Builtin.firstCells El.sz ys.length v).run P w'=.ok src.toArray w')
   (e4:(xs.length+ys.length)*B<=140737488355328) (d0:B=0->xs.length+ys.length<=140737488355328) {k:Nat} (hk:k=xs.length) :
   ∃ a' a2 w',(Builtin.append_ #[sT,T'] ty' #[.slice a k cap,v]).run P w=.ok (.slice a' (xs++ys).length a2) w'∧Sym w0 M I0 I (OwnSl El e a' a2 (xs++ys) :: r) w'∧(xs.length+ys.length<=cap->a'=a∧a2=cap):=by
 subst hk;obtain⟨_,_,_,rfl,rfl⟩:=hv;have b0:∀ w,(sizeOf e).run P w=.ok El.sz w:=λw=>by simp[sizeOf,typeInfo,hi,b1]
 have⟨_,a8,e2⟩:=h.get;rw[kC];by_cases hfit:xs.length+ys.length<=cap
 . -- there is room
   rcases a8 with⟨W,O,V⟩ | ⟨b,c,W,O,V,h4,h5⟩
   . subst W O V;have hy:ys=[]:=AvU (by simpa using hfit);subst hy;exact⟨none,0,w,MC hT a5 b0 hfit (a4 w rfl) (λp hp=>by cases hp) (λ_=>rfl),h,λ_=>⟨rfl,rfl⟩⟩
   . subst W;have⟨hb,d9,hn,kk,⟨g1,g2,hd',hl1,hl2,ha,hs'⟩,hkk,hdj,hm⟩:=h;rcases ha with⟨a6,_⟩ | ⟨b',c',a6,c0,e6,c1,c2⟩
     . cases a6
     cases a6;have a7:Sym w0 M I0 I (Fw.pto b (.cells c' e (0,0)) :: r) w:=⟨hb,d9,hn,kk,⟨g1,g2,hd',hl1,hl2,c0,hs'⟩,hkk,hdj,hm⟩;have e7:xs.length*El.sz+ys.length*El.sz<=cap*El.sz:=by rw[<-WB]; exact W9 _ hfit
     have hr:=run_storeCells_at (P:=P) b (xs.length*El.sz) e src 0 c' w a7.pto (by rw[c1,D.1]; omega) (X0 D.2.2);have e1:(⟨b,0,none⟩:Addr).add (xs.length*El.sz)=⟨b,xs.length*El.sz,none⟩:=by unfold Addr.add; split <;> simp_all
     refine⟨some ⟨b,0,none⟩,cap,_,MC hT a5 b0 hfit (a4 w rfl) (λp hp=>by cases hp; rw[e1]; exact hr) (λh=>by cases h),?_,λ_=>⟨rfl,rfl⟩⟩;have d5:=a7.upd (o':=.cells (c'.toList.take (xs.length*El.sz+0)++src++c'.toList.drop (xs.length*El.sz+0+src.length)).toArray e (0,0)) (w':=w.setRow b _) rfl rfl rfl rfl (by simp[World.setRow]) (λq hq=>Fw.setRow_other hq) (setRow_heap w b _ _ e _ a7.pto);refine d5.weaken λq hq=>.inr ⟨b,_,rfl,hq,by simpa using hfit,?_,?_⟩
     . simp[D.1]; omega
     . intro Z x2 a3;simp only[eY,AdO];rcases ZZ Z xs.length with h6 | h6
       . rw[kA h6] at a3;have⟨cs,J,g4⟩:=c2 Z x2 a3;refine⟨cs,J,λj u U=>?_⟩;have d3:j<El.sz:=by rw[<-El.len J]; grind
         have a9:(Z+1)*El.sz<=xs.length*El.sz:=W9 _ h6;grind
       . rw[wW h6] at a3;have⟨cs,J,g4⟩:=D.2.1 _ x2 a3;refine⟨cs,J,λj u U=>?_⟩;have h7:=g4 j u U;have h8:=(List.getElem?_eq_some_iff.1 h7).1;have e3:Z*El.sz=xs.length*El.sz+(Z - xs.length)*El.sz:=by rw[<-WB]; congr 1; omega
         rw[nL,wW (by simp; omega),kA (by simp; omega),<-h7];grind
 . -- a new array
   have e5:∃ old:List Value,(∀ w':World,w'.heap=w.heap->(Builtin.firstCells El.sz xs.length (.slice a xs.length cap)).run P w'=.ok old.toArray w')∧old.length=xs.length*El.sz ∧
       ∀ i x,xs[i]? = some x->∃ cs,El.rep I cs x∧∀ j v,cs[j]? = some v->old[i*El.sz+j]? = some v:=by
     rcases a8 with⟨W,O,V⟩ | ⟨b,c,W,O,V,h4,h5⟩
     . subst W O V; exact⟨[],λw' _=>by simp[Builtin.firstCells],by simp,λi x h=>by simp at h⟩
     . subst W;have d8:xs.length*El.sz<=c.size:=by rw[h4]; exact W9 _ V
       refine⟨c.toList.take (xs.length*El.sz),λw' d6=>?_,by simp; omega,λi x hx=>?_⟩
       . simp only[Builtin.firstCells];have d4:(c.toList.take (xs.length*El.sz)).length=xs.length*El.sz:=by rw[QY]; exact Ah6 (by simpa using d8)
         have:=run_loadCells_list (P:=P) w' ⟨b,0,none⟩ (c.toList.take (xs.length*El.sz)) (λj v U=>by
          have e1:(⟨b,0,none⟩:Addr).add j=⟨b,j,none⟩:=by unfold Addr.add; split <;> simp_all
          have d1:w'.heap[b]? = some (.cells c e (0,0)):=by rw[d6]; exact e2 _ _ O
          rw[e1,MB d1];rw[wZ] at U;split at U
          . simpa using U
          . cases U)
         rwa [d4] at this
       . have⟨cs,J,g4⟩:=h5 i x hx;refine⟨cs,J,λj u U=>?_⟩;have d3:j<El.sz:=by rw[<-El.len J]; exact(List.getElem?_eq_some_iff.1 U).1
         have d2:=(List.getElem?_eq_some_iff.1 hx).1;have a9:(i+1)*El.sz<=xs.length*El.sz:=W9 _ d2;rw[WB,xB] at a9;rw[wZ,if_pos (by omega)];simpa using g4 j u U
   have⟨a',a2,w',g1,g2⟩:=h.drop.appendNew (P:=P) (ty':=ty') hT a5 hi b1 hB hz d7 D a4 e4 d0 hfit e5;grind
theorem Ops.append {i:TypeInfo} {v:Value} {O:Array TypeId} {k:Nat} (B:Nat) (hA:Del m (OwnSl El e a cap xs) m') (hT:P.underlying sT=some (.slice e)) (a4:P.underlying T'=some (.slice e')) (hi:P.info? e=some i)
  (a5:i.size=El.sz) (hB:i.bytes=B) (hz:i.zero=some zc) (a6:zc.cells.size=El.sz) (a3:Nat.blt 0 B=true) (U:O = #[sT,T']) (hx:ev E x=some (.slice a k cap)) (hk:k=xs.length) (hy:ev E y=some v) (hS:Src P El I (Sym w0 M I0 I m) v ys)
  (J:(xs.length+ys.length)*B<=140737488355328) (hb:Nat.blt d n.sz=true) (hf:fresh E d=true)
  (k':∀ D h,Ops P ops l n ((d,.slice D (xs++ys).length h) :: E) (Sym w0 M I0 I (OwnSl El e D h (xs++ys) :: m')) Q) :
  Ops P ops (⟨some d,.call ⟨.builtin .append,#[x,y],O⟩,ty,pos,af,none⟩ :: l) n E (Sym w0 M I0 I m) Q:=
 Ops.valx (λv w'=>∃ D h,v=.slice D (xs++ys).length h∧Sym w0 M I0 I (OwnSl El e D h (xs++ys) :: m') w') rfl rfl
  (λc w W V=>by
   have⟨Z,_,h1,h2⟩:=hS;have⟨D,h,w',hr,a2,_⟩:=(V.del hA).append (P:=P) (ty':=ty) hT a4 hi a5 hB hz a6 Z h1 (h2 w V) J (λh0=>by subst h0; cases a3) hk;subst U;refine⟨_,w',?_,D,h,rfl,a2⟩;have e:(#[x,y].map c.eval) = #[.slice a k cap,v]:=by simp[W.eval hx,W.eval hy]
   simp only[execOp,resolve,e,Sem.run_bind,Sem.run_pure,Result.andThen_ok,invoke,builtin,hr]) hb hf
  (λv c w W ⟨D,h,Z,V⟩=>by subst Z; exact k' D h c w W V)
end
section
variable {w0:World} {M:Nat→Prop} {I0:IH}
variable {P:Program} {n:FrK} {E:DG} {Q:Exit→Act→World→Prop} {ops:Array Oper}
variable {listed:Array Bool} {l0 ex:List HA}
abbrev HQ:=List (Nat×Nat×Value)
def KP:List Nat->Nat->Bool
 | [],_=>false
 | x :: l,y=>bif Nat.beq x y then true else KP l y
theorem EO {l:List Nat} {y:Nat}:KP l y=true↔y∈l:=by
 induction l with
 | nil=>simp[KP]
 | cons x l D=>
  simp only[KP,SI]
  cases h:Nat.beq x y with
  | true=>simp[Ah1 h]
  | false=>
   have:y≠x:=λe=>by rw[e,Nat.beq_refl] at h; cases h
   simp[D,this]
def yY:List Edge->List Nat
 | []=>[]
 | e :: l=>bif Region.binds .any e then e.on :: yY l else yY l
def EU (o:Oper):List Nat:=yY o.after.toList
theorem dC {l:List Edge} {j:Nat}:j∈yY l↔∃ e∈l,Region.binds .any e=true∧e.on=j:=by
  induction l with
  | nil=>simp[yY]
  | cons e l V=>
    simp only[yY]
    cases h:Region.binds .any e with
    | true =>
      simp only[cond_true, SI, V]; constructor
      . rintro(rfl | ⟨O,U,D,J⟩)
        . exact⟨e,.inl rfl,h,rfl⟩
        . exact⟨O,.inr U,D,J⟩
      . rintro⟨O,rfl | U,D,J⟩
        . exact .inl J.symm
        . exact .inr ⟨O,U,D,J⟩
    | false =>
      simp only[cond_false, SI, V]; constructor
      . rintro⟨O,U,D,J⟩; exact⟨O,.inr U,D,J⟩
      . rintro⟨O,rfl | U,D,J⟩
        . rw[h] at D; cases D
        . exact⟨O,U,D,J⟩
def J6:HQ->List Nat->DG->DG
 | [],_,E=>E
 | p :: r,js,E=>bif KP js p.1 then p.2 :: J6 r js E else J6 r js E
def ApI:HQ->DG->DG
 | [],E=>E
 | p :: r,E=>p.2 :: ApI r E
def HX:HQ->Nat->Option (Nat×Value)
 | [],_=>none
 | p :: r,i=>bif Nat.beq p.1 i then some p.2 else HX r i
def Fin (n:FrK) (S:World->Prop) (d:Nat) (v:Value):Exit->Act->World->Prop:=λe a w=>e=.normal∧a.defers=n.defs∧a.tmps[d]? = some v∧S w
abbrev Sh:=List HA->List HA
def ShOk (L:Sh):Prop:=∀ X ex,(L (X :: ex)).Perm (X :: L ex)
theorem Del.perm {l m:List HA} {A:HA} (h:Del l A m):l.Perm (A :: m):=by
 induction h with
 | z=>exact .refl _
 | s _ D=>exact(D.cons _).trans (.swap ..)
theorem AmG {l O:List HA} {I:IH} (hp:l.Perm O):∀ {h:IH},NH l I h->NH O I h:=by
 induction hp with
 | nil=>exact λh=>h
 | cons x _ W=>exact λ⟨U,V,a,b,c,d,e⟩=>⟨U,V,a,b,c,d,W e⟩
 | swap x y l=>exact λZ=>kE (.s .z) Z
 | trans _ _ J D=>exact λh=>D (J h)
theorem Sym.perm {I:IH} {l D:List HA} {w:World} (hp:l.Perm D) (h:Sym w0 M I0 I l w):Sym w0 M I0 I D w:=by have⟨U,hi,O,k,W,hk,V,J⟩:=h;exact⟨U,hi,O,k,AmG hp W,hk,V,J⟩
theorem ShOk.front {L:Sh} (h:ShOk L):∀ ex,(L ex).Perm (ex++L [])
 | []=>.refl _
 | X :: ex=>(h X ex).trans ((h.front ex).cons X)
theorem ShOk.app {L:Sh} (h:ShOk L) (pre:List HA):ShOk λex=>L (pre++ex):=λX ex=>by refine(h.front _).trans (.trans ?_ ((h.front (pre++ex)).symm.cons X));simp only[nL,nS];exact AmE
structure AS where
 i:Nat
 d:Nat
 env:DG
 val:Nat→Value
 atom:Nat→HA
def AvC (P:Program) (ops:Array Oper) (n:FrK) (w0:World) (M:Nat->Prop) (I0:IH) (s:AS):Prop:=
 ∃ o,ops[s.i]? = some o∧o.dst=some s.d∧∀ (I:IH) (L:Sh),ShOk L->∀ ex,Ops P ops [o] n s.env (Sym w0 M I0 I (L ex)) λe a w=>e=.normal∧a.defers=n.defs∧∃ b,a.tmps[s.d]? = some (s.val b)∧Sym w0 M I0 I (L (s.atom b :: ex)) w
def NI:List AS->List Nat
 | []=>[]
 | s :: r=>s.i :: NI r
def barD:List AS->HQ->Sh->(HQ->Sh->Prop)->Prop
 | [],dn,L,K=>K dn L
 | s :: r,dn,L,K=>∀ b,barD r ((s.i,s.d,s.val b) :: dn) (λex=>L (s.atom b :: ex)) K
def avals (bs:Nat->Nat):List AS->HQ->HQ
 | [],dn=>dn
 | s :: r,dn=>avals bs r ((s.i,s.d,s.val (bs s.i)) :: dn)
def atoms (bs:Nat->Nat):List AS->List HA
 | []=>[]
 | s :: r=>s.atom (bs s.i) :: atoms bs r
theorem barD.get (bs:Nat->Nat):∀ {as:List AS} {dn:HQ} {L:Sh} {K:HQ->Sh->Prop},barD as dn L K->K (avals bs as dn) (λex=>L (atoms bs as++ex))
 | [],_,_,_,h=>h
 | s :: r,_,_,_,h=>barD.get bs (as:=r) (h (bs s.i))
def Ae5 (as X:List Nat):List Oper->Nat->Bool
 | [],_=>true
 | o :: r,i=>(KP X i || KP as i || !(EU o).all (λp=>KP X p || KP as p) || as.all (KP (EU o))) && Ae5 as X r (i+1)
def PendL (P:Program) (ops:Array Oper) (n:FrK) (E:DG) (dn:HQ) (S:List HA->World->Prop):List Nat->Prop
 | []=>True
 | f :: fs=>(∃ o d v,ops[f]? = some o∧o.dst=some d∧fresh E d=true∧HX dn f=some (d,v)∧∀ ex,Ops P ops [o] n (J6 dn (EU o) E) (S ex) (Fin n (S ex) d v))∧PendL P ops n E dn S fs
def anc (ops:Array Oper):Nat->Nat->Nat->Bool
 | 0,_,_=>false
 | k+1,f,c=>match ops[c]? with
  | none=>false
  | some o=>KP (EU o) f || (EU o).any (anc ops k f)
def AhC (ops:Array Oper) (c:Nat) (h pend:List Nat):Prop:=∀ f∈pend,f∈h∨∃ k,anc ops k f c=true
def kH (ops:Array Oper) (c f:Nat):Bool:=match ops[c]? with
 | none=>false
 | some o=>KP (EU o) f
def AaY (X:List Nat):List Nat->Bool
 | []=>true
 | p :: ps=>KP X p && AaY X ps
def dD (ops:List Oper) (X:List Nat) (c:Nat):Nat->Bool
 | i=>match ops with
  | []=>true
  | o :: r=>(KP X i || Nat.beq i c || !AaY X (EU o)) && dD r X c (i+1)
def R7 (X:List Nat):Nat->Bool
 | 0=>true
 | k+1=>KP X k && R7 X k
def fS (o:Oper) (c:Nat) (dn:HQ) (a:Act) (h:HQ):Prop:=
 match o.dst with
 | some d=>∃ v,a.tmps[d]? = some v∧h=(c,d,v) :: dn
 | none=>h=dn
def kI (X:List Nat):Nat->Bool
 | 0=>true
 | k+1=>KP X k && kI X k
def WD:List Oper->Nat->Bool
 | [],_=>true
 | o :: r,i=>kI (EU o) i && WD r (i+1)
def rmE (d:Nat):DG->DG
 | []=>[]
 | p :: r=>bif Nat.beq p.1 d then rmE d r else p :: rmE d r
def X1 (o:Oper) (E:DG):DG:=match o.dst with
 | none=>E
 | some d=>bif fresh E d then E else rmE d E
def DrawD (P:Program) (ops:Array Oper) (n:FrK) (Q:Exit->Act->World->Prop) (w0:World) (M:Nat->Prop) (I0:IH):DG->List (Option Nat)->HQ->List Nat->List Nat->List AS->IH->Sh->Prop
 | E,[],dn,X,_,as,I,L=>as=[]∧∃ t,R7 X t=true∧(∀ x∈X,x<t)∧WD (ops.toList.drop t) t=true∧Ops P ops (ops.toList.drop t) n (ApI dn E) (Sym w0 M I0 I (L [])) Q
 | E,none :: cs,dn,X,pend,as,I,L=>Ae5 (NI as) X ops.toList 0=true∧barD as dn L λD J=>DrawD P ops n Q w0 M I0 E cs D (NI as++X) pend [] I J
 | E,some c :: cs,dn,X,pend,as,I,L=>∃ o,ops[c]? = some o ∧
  ((∃ d v,o.dst=some d∧fresh E d=true∧(∀ ex,Ops P ops [o] n (J6 dn (EU o) E) (Sym w0 M I0 I (L ex)) (Fin n (Sym w0 M I0 I (L ex)) d v))∧DrawD P ops n Q w0 M I0 E cs ((c,d,v) :: dn) (c :: X) (c :: pend) as I L)
  ∨ (∃ d val atom,o.dst=some d∧fresh E d=true∧AaY X (EU o)=true∧AvC P ops n w0 M I0 ⟨c,d,J6 dn (EU o) E,val,atom⟩∧DrawD P ops n Q w0 M I0 E cs dn X pend (⟨c,d,J6 dn (EU o) E,val,atom⟩ :: as) I L)
  ∨ (dD ops.toList (NI as++X) c 0=true∧(as=[]∨X1 o E=E)∧∃ h,AhC ops c h pend∧∀ ex,Ops P ops [o] n (J6 dn (EU o) E) (Sym w0 M I0 I (L ex)) λe a w=>e=.normal∧a.defers=n.defs ∧
   ∃ O J D,fS o c dn a D∧ShOk J∧Sym w0 M I0 O (J ex) w∧PendL P ops n (X1 o E) D (λex=>Sym w0 M I0 O (J ex)) h∧DrawD P ops n Q w0 M I0 (X1 o E) cs D (c :: X) h as O J))
def gY (n:FrK):List Oper->List Nat->Bool
 | [],_=>true
 | o :: r,ds=>match o.dst with
  | none=>gY n r ds
  | some d=>Nat.blt d n.sz && !KP ds d && gY n r (d :: ds)
def gZ:List Oper->Nat->Bool
 | [],_=>true
 | o :: r,i=>(EU o).all (Nat.blt · i) && gZ r (i+1)
theorem AvV {o:Oper} {a:Act} {w:World} (ha:a.defers=n.defs) {K':Act->World->Prop} {U:Exit->Act->World->Prop} (Z:∀ e a w,U e a w->e=.normal) (hK:∀ a w,K' a w->a.defers=n.defs)
  (h:o.wpIn (WC n) 0 P a w K' U):o.wpIn (WC n) 0 P a w (λW w'=>K' W w'∧∃ v,W=a.put o.dst v) Q:=by
 have hp:∀ c a w,¬U (.panic c) a w:=λc a w V=>by cases Z _ _ _ V
 have O:¬LetsOut U:=λ⟨a,w,V⟩=>by cases Z _ _ _ V
 unfold Oper.wpIn at *;refine⟨h.1,?_⟩
 replace h:=h.2
 generalize (o.semAt (WC n).round a.eval).run P w=r at *
 cases r with
 | ok x w'=>
  cases x <;> simp only[Oper.uponIn] at h ⊢
  case value v=>exact⟨h,v,rfl⟩
  case skip=>exact⟨h,_,rfl⟩
  case defer d=>exact absurd (hK _ _ h) (by rw[<-ha]; unfold Act.put; split <;> simp)
  case round=>refine⟨h.1,RoundIn.mono h.2 λe J D=>?_⟩; cases e with
   | returned v=>exact⟨D,v,rfl⟩
   | panicked c=>exact(hp _ _ _ D).elim
   | outgrown=>exact(O D).elim
  case enter f args=>
   refine⟨h.1,CallsIn.mono h.2 λe J D=>?_⟩
   cases e with
   | returned v=>exact⟨D,v,rfl⟩
   | panicked c=>exact(hp _ _ _ D).elim
   | outgrown=>exact(O D).elim
  case row=>exact⟨h.1,RowsIn.mono h.2 λv J D=>⟨D,v,rfl⟩⟩
 | halt x w'=>
  cases x <;> simp only[Oper.uponIn] at h ⊢;exact(hp _ _ _ h).elim
theorem sY {o:Oper} {i:Nat} {a:Act} {w:World} (Z:a.defers=n.defs) {J:Exit->Act->World->Prop} {K:Act->World->Prop} (hi:ops[i]? = some o) (W:∀ e a w,J e a w->e=.normal∧a.defers=n.defs)
   (h:wpListIn (WC n) 0 P ops J [o] a w) (V:∀ D w',J .normal D w'->(∃ v,D=a.put o.dst v)->K D w'):wpOpIn (WC n) 0 P ops Q i K a w:=by
 simp only[wpOpIn,hi];unfold wpListIn at h;split
 . rename_i O;rw[if_pos O] at h;refine Oper.wpIn_mono (λD w' U=>V D w' U.1 U.2) (AvV Z (K':=λa w=>J .normal a w) (Q:=Q) (λe a w h=>(W e a w h).1) (λa w h=>(W _ _ _ h).2) ?_);exact h
 . rename_i O;rw[if_neg O] at h;exact⟨h.1,V _ _ h.2 ⟨undef,rfl⟩⟩
structure RI (P:Program) (ops:Array Oper) (n:FrK) (E:DG) (Q:Exit→Act→World→Prop) (w0:World) (M:Nat→Prop) (I0:IH) (listed:Array Bool) (a:Act) (w:World) (cs:List (Option Nat)) (dn:HQ) (X pend:List Nat) (as:List AS) (I:IH) (L:Sh) (ad:List (AS×Nat)):Prop where
 draw:DrawD P ops n Q w0 M I0 E cs dn X pend as I L
 shape:ShOk L
 sat:Sym w0 M I0 I (L (ad.map fun p=>p.1.atom p.2)) w
 size:a.tmps.size=n.sz
 defers:a.defers=n.defs
 env:EnvOk E a
 lsize:listed.size=ops.size
 val:∀ i d v,(i,d,v)∈dn→listed.getD i false=true→a.tmps[d]? = some v
 have_:∀ i o d,ops[i]? = some o→o.dst=some d→i∈X→∃ v,(i,d,v)∈dn
 dnOk:∀ i d v,(i,d,v)∈dn→i∈X∧HX dn i=some (d,v)∧∃ o,ops[i]? = some o∧o.dst=some d
 inX:∀ i,listed.getD i false=true→i∈NI as++X
 outX:∀ i,i∈X→listed.getD i false=false→i∈pend
 pendL:PendL P ops n E dn (fun ex=>Sym w0 M I0 I (L ex)) pend
 down:∀ i o,listed.getD i false=true→ops[i]? = some o→∀ p∈EU o,listed.getD p false=true
 asX:∀ c∈NI as,c ∉ X
 asNd:(NI as).Nodup
 asSp:∀ s∈as,AvC P ops n w0 M I0 s∧∀ o,ops[s.i]? = some o→(∀ p∈EU o,p∈X)∧J6 dn (EU o) E=s.env∧fresh E s.d=true
 adOk:∀ p∈ad,p.1∈as∧listed.getD p.1.i false=true∧a.tmps[p.1.d]? = some (p.1.val p.2)
 adAll:∀ s∈as,listed.getD s.i false=true→∃ b,(s,b)∈ad
 adNd:(ad.map fun p=>p.1.i).Nodup
theorem PendL.get {dn:HQ} {S:List HA->World->Prop}:∀ {l:List Nat},PendL P ops n E dn S l->∀ f∈l,∃ o d v,ops[f]? = some o∧o.dst=some d∧fresh E d=true∧HX dn f=some (d,v)∧∀ ex,Ops P ops [o] n (J6 dn (EU o) E) (S ex) (Fin n (S ex) d v)
 | f :: fs,⟨h,h'⟩,g,D=>by
  cases D with
  | head=>exact h
  | tail _ D=>exact PendL.get h' g D
theorem Ak2 {a:Act} {js:List Nat} (J:EnvOk E a):∀ {dn:HQ},(∀ i d v,(i,d,v)∈dn->i∈js->a.tmps[d]? = some v)->EnvOk (J6 dn js E) a
 | [],_=>J
 | (i,d,v) :: dn,h=>by
  have ih:=Ak2 (js:=js) J (dn:=dn) (λi d v D=>h i d v (jY _ D));simp only[J6]
  cases D:KP js i with
  | true=>exact⟨h i d v (by simp) (EO.1 D),ih⟩
  | false=>exact ih
theorem Ak3 {a:Act} (D:EnvOk E a):∀ {dn:HQ},(∀ i d v,(i,d,v)∈dn->a.tmps[d]? = some v)->EnvOk (ApI dn E) a
 | [],_=>D
 | (i,d,v) :: dn,h=>⟨h i d v (by simp),Ak3 D λi d v J=>h i d v (jY _ J)⟩
theorem sZ {l:List Nat} {y:Nat} (h:KP l y=false):y ∉ l:=λD=>by rw[EO.2 D] at h; cases h
theorem Y8 {X:List Nat}:∀ {k i:Nat},R7 X k=true->i<k->i∈X
 | k+1,i,h,hi=>by
  simp only[R7,aM] at h;by_cases e:i=k
  . subst e; exact EO.1 h.1
  . exact Y8 h.2 (by omega)
theorem Ak4 {X:List Nat}:∀ {D:List Nat},(∀ p∈D,p∈X)->AaY X D=true
 | [],_=>rfl
 | p :: D,h=>by simp only[AaY,aM]; exact⟨EO.2 (h p (by simp)),Ak4 λq J=>h q (jY _ J)⟩
theorem AaZ {X:List Nat} {c:Nat} {l:List Oper}:∀ (k:Nat),dD l X c k=true->∀ (i:Nat) (o:Oper),l[i]? = some o->k+i∈X∨k+i=c∨¬(∀ p∈EU o,p∈X):=by
 induction l with
 | nil=>intro k _ i o hi; simp at hi
 | cons o' l O=>
  intro k h i o hi;simp only[dD,aM,AdU] at h
  cases i with
  | zero=>
   simp at hi; subst hi;rcases h.1 with(D | D) | D
   . exact .inl (EO.1 D)
   . exact .inr (.inl (Ah1 D))
   . refine .inr (.inr λJ=>?_);rw[Ak4 J] at D; cases D
  | succ i=>
   have:=O (k+1) h.2 i o (by simpa using hi)
   rwa [show k+1+i=k+(i+1) by omega] at this
theorem AhD (J:∀ (i:Nat) (o:Oper),listed.getD i false=true->ops[i]? = some o->∀ p∈EU o,listed.getD p false=true) (k:Nat) :
  ∀ (f c:Nat) (o:Oper),ops[c]? = some o->(∀ p∈EU o,listed.getD p false=true)->anc ops k f c=true->listed.getD f false=true:=by
 induction k with
 | zero=>intro f c o _ _ h; simp[anc] at h
 | succ k U=>
  intro f c o O hp h;simp only[anc,O,AdU,AoU] at h;rcases h with h | ⟨p,D,h⟩
  . exact hp f (EO.1 h)
  . cases V:ops[p]? with
    | none=>cases k <;> simp[anc,V] at h
    | some o'=>exact U f p o' V (J p o' (hp p D) V) h
theorem Ae6 {f c:Nat} (h:kH ops c f=true):anc ops 1 f c=true:=by
 unfold kH at h;unfold anc
 cases D:ops[c]? with
 | none=>rw[D] at h; cases h
 | some o=>rw[D] at h; simp[h]
theorem ApJ {f p c:Nat} (h:kH ops p f=true):∀ {k:Nat},anc ops k p c=true->∃ J,anc ops J f c=true:=by
 intro k
 induction k generalizing c with
 | zero=>intro D; simp[anc] at D
 | succ k U=>
  intro D;unfold anc at D
  cases V:ops[c]? with
  | none=>rw[V] at D; cases D
  | some o=>
   rw[V] at D;simp only[AdU,AoU] at D;rcases D with D | ⟨q,O,D⟩
   . refine⟨2,?_⟩;unfold anc;rw[V];simp only[AdU,AoU];exact .inr ⟨p,EO.1 D,Ae6 h⟩
   . have⟨J,hk⟩:=U D;refine⟨J+1,?_⟩;unfold anc;rw[V];simp only[AdU,AoU];exact .inr ⟨q,O,hk⟩
theorem Ae7 {l:List Oper}:∀ (U:List Nat),gY n l U=true->∀ (i:Nat) (o:Oper) (d:Nat),l[i]? = some o->o.dst=some d ->
  Nat.blt d n.sz=true∧d ∉ U∧∀ (j:Nat) (o':Oper),l[j]? = some o'->o'.dst=some d->j=i:=by
 induction l with
 | nil=>intro U _ i o d hi; simp at hi
 | cons o' l ih=>
  intro U h i o d hi V;simp only[gY] at h
  cases Z:o'.dst with
  | none=>
   rw[Z] at h
   cases i with
   | zero=>simp at hi; subst hi; rw[Z] at V; cases V
   | succ i=>
    have⟨a2,W,h4⟩:=ih U h i o d (by simpa using hi) V;refine⟨a2,W,λj J O D=>?_⟩
    cases j with
    | zero=>simp at O; subst O; rw[Z] at D; cases D
    | succ j=>rw[h4 j J (by simpa using O) D]
  | some d'=>
   simp only[Z,aM,Bool.not_eq_true'] at h;have⟨⟨g1,g3⟩,g4⟩:=h
   cases i with
   | zero=>
    simp at hi; subst hi; rw[Z] at V; cases V;refine⟨g1,sZ g3,λj J O D=>?_⟩
    cases j with
    | zero=>rfl
    | succ j=>
     have:=(ih (d :: U) g4 j J d (by simpa using O) D).2.1;exact absurd (by simp) this
   | succ i=>
    have⟨a2,W,h4⟩:=ih (d' :: U) g4 i o d (by simpa using hi) V;refine⟨a2,λhm=>W (jY _ hm),λj J O D=>?_⟩
    cases j with
    | zero=>simp at O; subst O; rw[Z] at D; cases D; exact absurd (by simp) W
    | succ j=>rw[h4 j J (by simpa using O) D]
theorem qD {l:List Oper}:∀ (k:Nat),gZ l k=true->∀ (i:Nat) (o:Oper),l[i]? = some o->∀ p∈EU o,p<k+i:=by
 induction l with
 | nil=>intro k _ i o hi; simp at hi
 | cons o' l D=>
  intro k h i o hi p hp;simp only[gZ,aM,List.all_eq_true] at h
  cases i with
  | zero=>simp at hi; subst hi; have:=h.1 p hp; simpa[Nat.blt_eq] using this
  | succ i=>have:=D (k+1) h.2 i o (by simpa using hi) p hp; omega
theorem Ae8 {ops:Array Oper} {i:Nat}:ops.toList[i]? = ops[i]?:=by simp
theorem HE {i j:Nat} (hi:i<listed.size):(listed.setIfInBounds i true).getD j false=true↔j=i∨listed.getD j false=true:=by
 simp only[jZ,AoN];by_cases e:i=j
 . subst e; simp[hi]
 . simp[e,Ne.symm e]
theorem AhE {as X:List Nat} {l:List Oper}:∀ (k:Nat),Ae5 as X l k=true->∀ (i:Nat) (o:Oper),l[i]? = some o->k+i∈as++X∨¬(∀ p∈EU o,p∈as++X)∨∀ c∈as,c∈EU o:=by
 induction l with
 | nil=>intro k _ i o hi; simp at hi
 | cons o' l U=>
  intro k h i o hi;simp only[Ae5,aM,AdU] at h
  cases i with
  | zero=>
   simp at hi; subst hi;rcases h.1 with((D | D) | D) | D
   . exact .inl (List.mem_append.2 (.inr (EO.1 D)))
   . exact .inl (List.mem_append.2 (.inl (EO.1 D)))
   . refine .inr (.inl λO=>?_)
     have:(EU o').all (λp=>KP X p || KP as p)=true:=List.all_eq_true.2 λp hp=>by
      rcases List.mem_append.1 (O p hp) with J | J
      . simp[EO.2 J]
      . simp[EO.2 J]
     rw[this] at D; cases D
   . exact .inr (.inr λc V=>EO.1 (List.all_eq_true.1 D c V))
  | succ i=>
   have:=U (k+1) h.2 i o (by simpa using hi)
   rwa [show k+1+i=k+(i+1) by omega] at this
def T5:List (Option Nat)->List Nat
 | []=>[]
 | none :: r=>T5 r
 | some c :: r=>c :: T5 r
theorem V4 {c:Nat}:∀ {as:List AS},c∈NI as↔∃ s∈as,s.i=c
 | []=>by simp[NI]
 | s :: r=>by
  simp only[NI,SI,V4 (as:=r)];constructor
  . rintro(rfl | ⟨J,D,h⟩)
    . exact⟨s,.inl rfl,rfl⟩
    . exact⟨J,.inr D,h⟩
  . rintro⟨J,rfl | D,h⟩
    . exact .inl h.symm
    . exact .inr ⟨J,D,h⟩
theorem QO {α β:Type} {f:α->β}:∀ {l:List α},(l.map f).Nodup->∀ {x y:α},x∈l->y∈l->f x=f y->x=y
 | a :: l,h,x,y,hx,hy,e=>by
  simp only[NM,sS,gW,not_exists,not_and] at h;rcases List.mem_cons.1 hx with h1 | h1 <;> rcases List.mem_cons.1 hy with h2 | h2
  . rw[h1,h2]
  . rw[h1] at e; exact absurd e.symm (h.1 y h2)
  . rw[h2] at e; exact absurd e (h.1 x h1)
  . exact QO h.2 h1 h2 e
theorem Y9 {α β:Type} {f:α->β}:∀ {l:List α},(l.map f).Nodup->l.Nodup
 | [],_=>.nil
 | a :: l,h=>by simp only[NM,sS,gW,not_exists,not_and] at h;exact List.nodup_cons.2 ⟨λD=>h.1 a D rfl,Y9 h.2⟩
theorem rS:∀ {as:List AS},NI as=as.map (·.i)
 | []=>rfl
 | s :: r=>by simp[NI,rS (as:=r)]
theorem yZ {bs:Nat->Nat}:∀ {as:List AS},atoms bs as=(as.map λs=>(s,bs s.i)).map λp=>p.1.atom p.2
 | []=>rfl
 | s :: r=>by simp[atoms,yZ (as:=r)]
theorem nX {bs:Nat->Nat} {i d:Nat} {v:Value}:∀ {as:List AS} {dn:HQ},(i,d,v)∈avals bs as dn->(i,d,v)∈dn∨∃ s∈as,i=s.i∧d=s.d∧v=s.val (bs s.i)
 | [],_,h=>.inl h
 | s :: r,dn,h=>by
  rcases nX (as:=r) h with D | ⟨s',D,h2⟩
  . rcases List.mem_cons.1 D with D | D
    . cases D; exact .inr ⟨s,by simp,rfl,rfl,rfl⟩
    . exact .inl D
  . exact .inr ⟨s',jY _ D,h2⟩
theorem hM {bs:Nat->Nat}:∀ {as:List AS} {dn:HQ},(∀ p∈dn,p∈avals bs as dn)∧∀ s∈as,(s.i,s.d,s.val (bs s.i))∈avals bs as dn
 | [],_=>⟨λ_ h=>h,by simp⟩
 | s :: r,dn=>by
  have ih:=hM (bs:=bs) (as:=r) (dn:=(s.i,s.d,s.val (bs s.i)) :: dn);refine⟨λp hp=>ih.1 p (jY _ hp),λ_ D=>?_⟩;rcases List.mem_cons.1 D with rfl | D
  . exact ih.1 _ (by simp)
  . exact ih.2 _ D
theorem tA {i c:Nat} (h:c≠i):Nat.beq c i=false:=by cases D:Nat.beq c i with | false=>rfl | true=>exact absurd (Ah1 D) h
theorem aO {bs:Nat->Nat} {i:Nat}:∀ {as:List AS} {dn:HQ},i ∉ NI as->HX (avals bs as dn) i=HX dn i
 | [],_,_=>rfl
 | s :: r,dn,h=>by simp only[NI,SI,not_or] at h;rw[avals,aO h.2];simp only[HX,tA (Ne.symm h.1),cond_false]
theorem kJ {bs:Nat->Nat}:∀ {as:List AS} {dn:HQ},(NI as).Nodup->∀ s∈as,HX (avals bs as dn) s.i=some (s.d,s.val (bs s.i))
 | s :: r,dn,h,s',hs'=>by
  simp only[NI,sS] at h;rcases List.mem_cons.1 hs' with rfl | hs'
  . rw[avals,aO h.1]; simp[HX]
  . exact kJ h.2 s' hs'
theorem zB {l:HQ} {c:Nat} {x:Nat×Value} (h:HX l c=some x):(c,x)∈l:=by
 induction l with
 | nil=>simp[HX] at h
 | cons q l D=>
  simp only[HX] at h
  cases J:Nat.beq q.1 c with
  | true=>rw[J] at h; simp at h; have:=Ah1 J; subst h; subst this; simp
  | false=>rw[J] at h; exact jY _ (D h)
theorem tB {c d:Nat} {v:Value} {dn:HQ} {js:List Nat} {a:Act} (h:EnvOk (J6 ((c,d,v) :: dn) js E) a):EnvOk (J6 dn js E) a:=by
 simp only[J6] at h
 cases D:KP js c with
 | false=>rw[D] at h; exact h
 | true=>rw[D] at h; exact h.2
theorem PendL.push {c d:Nat} {v:Value} {dn:HQ} {S:List HA->World->Prop} (J:∀ x,HX dn c≠some x):∀ {l:List Nat},PendL P ops n E dn S l->PendL P ops n E ((c,d,v) :: dn) S l
 | [],_=>trivial
 | f :: fs,⟨⟨o',d',v',h1,h2,hfr,h3,h4⟩,h5⟩=>by
  refine⟨⟨o',d',v',h1,h2,hfr,?_,λex O w' h D=>h4 ex O w' ⟨h.size,h.defers,tB h.env⟩ D⟩,PendL.push J h5⟩;have hne:c≠f:=λe=>by subst e; exact J _ h3
  simp only[HX,tA hne,cond_false]; exact h3
theorem PendL.app {dn:HQ} {S:List HA->World->Prop} (g:List HA->List HA):∀ {l:List Nat},PendL P ops n E dn S l->PendL P ops n E dn (λex=>S (g ex)) l
 | [],_=>trivial
 | _ :: _,⟨⟨o',d',v',h1,h2,hfr,h3,h4⟩,h5⟩=>⟨⟨o',d',v',h1,h2,hfr,h3,λex=>h4 (g ex)⟩,PendL.app g h5⟩
theorem PendL.avals {bs:Nat->Nat} {S:List HA->World->Prop} {l:List Nat}:∀ {as:List AS} {dn:HQ},(NI as).Nodup->(∀ c∈NI as,∀ x,HX dn c≠some x)->PendL P ops n E dn S l->PendL P ops n E (avals bs as dn) S l
 | [],_,_,_,h=>h
 | s :: r,dn,hn,hd,h=>by
  simp only[NI,sS] at hn;refine PendL.avals (as:=r) hn.2 (λc J x=>?_) (h.push (hd s.i (by simp[NI])));have D:s.i≠c:=λe=>by subst e; exact hn.1 J
  simp only[HX,tA D,cond_false];exact hd c (by simp[NI,J]) x
theorem zC {X:List Nat}:∀ {D:List Nat},AaY X D=true->∀ p∈D,p∈X
 | q :: D,h,p,hp=>by
  simp only[AaY,aM] at h;rcases List.mem_cons.1 hp with rfl | hp
  . exact EO.1 h.1
  . exact zC h.2 p hp
theorem RI.norm {a:Act} {w:World}:∀ {cs:List (Option Nat)} {dn:HQ} {X pend:List Nat} {as:List AS} {I:IH} {L:Sh} {ad:List (AS×Nat)},RI P ops n E Q w0 M I0 listed a w cs dn X pend as I L ad ->
  (∀ c∈T5 cs,c ∉ NI as++X)->(T5 cs).Nodup->∃ W dn' X' V Z L' ad',RI P ops n E Q w0 M I0 listed a w W dn' X' V Z I L' ad'∧(∀ c∈T5 W,c ∉ NI Z++X')∧(T5 W).Nodup∧(∀ c∈T5 W,c∈T5 cs)∧(∀ c∈NI Z++X',c∈NI as++X∨c∈T5 cs)∧(∀ i,(i∈NI as++X∨i∈T5 cs)->(i∈NI Z++X'∨i∈T5 W)) ∧
    (W=[]∨(∃ r,W=none :: r∧∃ c∈NI Z,listed.getD c false=false)∨∃ c r o,W=some c :: r∧ops[c]? = some o∧dD ops.toList (NI Z++X') c 0=true∧(Z=[]∨X1 o E=E)∧∃ p',AhC ops c p' V∧∀ ex,Ops P ops [o] n (J6 dn' (EU o) E) (Sym w0 M I0 I (L' ex)) λe a w=>e=.normal∧a.defers=n.defs ∧
        ∃ I2 L2 dn2,fS o c dn' a dn2∧ShOk L2∧Sym w0 M I0 I2 (L2 ex) w∧PendL P ops n (X1 o E) dn2 (λex=>Sym w0 M I0 I2 (L2 ex)) p'∧DrawD P ops n Q w0 M I0 (X1 o E) r dn2 (c :: X') p' Z I2 L2):=by
 intro cs
 induction cs with
 | nil=>exact λh _ _=>⟨_,_,_,_,_,_,_,h,by simp[T5],by simp[T5],by simp[T5],λc hc=>.inl hc,λ_ h=>h,.inl rfl⟩
 | cons c? cs ih=>
  intro dn X pend as I L ad h hX hN
  cases c? with
  | none=>
    by_cases hall:∀ c∈NI as,listed.getD c false=true
    . -- the barrier falls
      have hd:=h.draw;simp only[DrawD] at hd
      have hex:∀ i,∃ b,∀ s∈as,s.i=i->(s,b)∈ad:=λi=>by
        by_cases hi:∃ s∈as,s.i=i
        . obtain⟨s,U,rfl⟩:=hi;have⟨b,hb⟩:=h.adAll s U (hall _ (V4.2 ⟨s,U,rfl⟩));refine⟨b,λs' hs' e=>?_⟩;have hnd:=h.asNd;rw[rS] at hnd;rw[QO hnd hs' U e]; exact hb
        . exact⟨0,λs U e=>absurd ⟨s,U,e⟩ hi⟩
      obtain⟨bs,hbs⟩:∃ bs:Nat->Nat,∀ s∈as,(s,bs s.i)∈ad:=⟨λi=>Classical.choose (hex i),λs U=>Classical.choose_spec (hex s.i) s U rfl⟩
      have hperm:(ad.map λp=>p.1.atom p.2).Perm (atoms bs as):=by
        rw[yZ];refine List.Perm.map _ ?_
        have hnd2:(as.map λs=>(s,bs s.i)).Nodup:=by have hnd:=h.asNd;rw[rS] at hnd;refine Y9 (f:=λp=>p.1.i) ?_;simpa[Function.comp_def] using hnd
        refine(AdN (Y9 h.adNd) hnd2).2 λp=>⟨λhp=>?_,λhp=>?_⟩
        . have O:=(h.adOk p hp).1;have:=QO h.adNd hp (hbs p.1 O) rfl;exact List.mem_map.2 ⟨p.1,O,this.symm⟩
        . obtain⟨s,U,rfl⟩:=List.mem_map.1 hp;exact hbs s U
      have hdl:∀ c∈NI as,∀ x,HX dn c≠some x:=λc hc x e=>h.asX c hc (h.dnOk c x.1 x.2 (zB e)).1
      have H:RI P ops n E Q w0 M I0 listed a w cs (Fw.avals bs as dn) (NI as++X) pend [] I (λex=>L (Fw.atoms bs as++ex)) []:=by
        refine⟨hd.2.get bs,h.shape.app _,?_,h.size,h.defers,h.env,h.lsize,?_,?_,?_,h.inX,?_,?_,h.down,by simp[NI],by simp[NI],by simp,by simp,by simp,by simp⟩
        . refine h.sat.perm (((h.shape.front _).trans ?_).trans (h.shape.front _).symm);simp only[AjX,kD];exact hperm.append_right _
        . intro i d v D hl;rcases nX D with D | ⟨s,U,rfl,rfl,rfl⟩
          . exact h.val i d v D hl
          . exact(h.adOk _ (hbs s U)).2.2
        . intro i o d hi hd D;rcases List.mem_append.1 D with D | D
          . obtain⟨s,U,rfl⟩:=V4.1 D;have⟨o',ho',hd',_⟩:=(h.asSp s U).1;rw[hi] at ho'; cases ho'; rw[hd] at hd'; cases hd';exact⟨_,hM.2 s U⟩
          . have⟨v,hv⟩:=h.have_ i o d hi hd D;exact⟨v,hM.1 _ hv⟩
        . intro i d v D;rcases nX D with D | ⟨s,U,rfl,rfl,rfl⟩
          . have⟨g1,g2,g3⟩:=h.dnOk i d v D;exact⟨List.mem_append.2 (.inr g1),(aO (λhc=>h.asX i hc g1)).trans g2,g3⟩
          . have⟨o',ho',hd',_⟩:=(h.asSp s U).1;exact⟨List.mem_append.2 (.inl (V4.2 ⟨s,U,rfl⟩)),kJ h.asNd s U,o',ho',hd'⟩
        . intro i hi hl;rcases List.mem_append.1 hi with hi | hi
          . rw[hall i hi] at hl; cases hl
          . exact h.outX i hi hl
        . exact(h.pendL.app (λex=>Fw.atoms bs as++ex)).avals h.asNd hdl
      have g:=ih H (by simpa[NI,T5] using hX) hN;simp only[NI,AdY] at g;exact g
    . refine⟨none :: cs,dn,X,pend,as,L,ad,h,hX,hN,λc hc=>hc,λc hc=>.inl hc,λ_ h=>h,.inr (.inl ⟨cs,rfl,?_⟩)⟩;refine AgZ λhne=>hall λc hc=>?_
      cases hl:listed.getD c false with
      | true=>rfl
      | false=>exact absurd ⟨c,hc,hl⟩ hne
  | some c=>
  have hd:=h.draw;simp only[DrawD] at hd;simp only[T5,sS] at hN;have hcX:c ∉ NI as++X:=hX c (by simp[T5]);have hnl:listed.getD c false=false:=by cases hl:listed.getD c false with | false=>rfl | true=>exact absurd (h.inX c hl) hcX
  obtain⟨o,ho,hd | hd | hd⟩:=hd
  . have⟨d,v,hod,hfr,hops,hdr⟩:=hd;have hcX':c ∉ X:=λD=>hcX (List.mem_append.2 (.inr D));have hcdn:∀ d v,(c,d,v) ∉ dn:=λd v D=>hcX' (h.dnOk c d v D).1
    have hdl:∀ i d' v',(i,d',v')∈dn->HX ((c,d,v) :: dn) i=some (d',v'):=λi d' v' D=>by
      have hne:c≠i:=λe=>by subst e; exact hcdn _ _ D
      simp only[HX,tA hne,cond_false]; exact(h.dnOk i d' v' D).2.1
    suffices H:RI P ops n E Q w0 M I0 listed a w cs ((c,d,v) :: dn) (c :: X) (c :: pend) as I L ad∧(∀ c'∈T5 cs,c' ∉ NI as++c :: X) by
      have⟨W,dn',X',V,Z,L',ad',g1,g2,g3,g4,g5,g7,g6⟩:=ih H.1 H.2 hN.2;refine⟨W,dn',X',V,Z,L',ad',g1,g2,g3,λc' J=>jY _ (g4 c' J),λc' J=>?_,λi hi=>g7 i ?_,g6⟩
      . rcases g5 c' J with O | O
        . simp only[nT,SI,T5] at O ⊢;rcases O with O | rfl | O
          . exact .inl (.inl O)
          . exact .inr (.inl rfl)
          . exact .inl (.inr O)
        . exact .inr (jY _ O)
      . simp only[nT,SI,T5] at hi ⊢;rcases hi with(O | O) | O | O
        . exact .inl (.inl O)
        . exact .inl (.inr (.inr O))
        . exact .inl (.inr (.inl O))
        . exact .inr O
    refine⟨⟨hdr,h.shape,h.sat,h.size,h.defers,h.env,h.lsize,?_,?_,?_,λi hi=>?_,?_,?_,h.down,?_,h.asNd,?_,h.adOk,h.adAll,h.adNd⟩,λc' J=>?_⟩
    . intro i d' v' D hl
      cases D with
      | head=>rw[hnl] at hl; cases hl
      | tail _ D=>exact h.val i d' v' D hl
    . intro i o' d' hi hd' D;rcases List.mem_cons.1 D with rfl | D
      . rw[ho] at hi; cases hi; rw[hod] at hd'; cases hd'; exact⟨v,by simp⟩
      . have⟨v',hv'⟩:=h.have_ i o' d' hi hd' D; exact⟨v',jY _ hv'⟩
    . intro i d' v' D
      cases D with
      | head=>exact⟨by simp,by simp[HX],o,ho,hod⟩
      | tail _ D=>exact⟨jY _ (h.dnOk i d' v' D).1,hdl i d' v' D,(h.dnOk i d' v' D).2.2⟩
    . have:=h.inX i hi;simp only[nT,SI] at this ⊢;exact this.imp id .inr
    . intro i hi hl;rcases List.mem_cons.1 hi with rfl | hi
      . simp
      . exact jY _ (h.outX i hi hl)
    . refine⟨⟨o,d,v,ho,hod,hfr,by simp[HX],λex a' w' hok hs'=>hops ex a' w' ⟨hok.size,hok.defers,tB hok.env⟩ hs'⟩,h.pendL.push λx hx=>hcdn _ _ (zB hx)⟩
    . intro c' J D;rcases List.mem_cons.1 D with rfl | D
      . exact hcX (List.mem_append.2 (.inl J))
      . exact h.asX c' J D
    . intro s U;have⟨g1,g2⟩:=h.asSp s U;refine⟨g1,λo' ho'=>⟨λp hp=>jY _ ((g2 o' ho').1 p hp),?_⟩⟩;have hnm:KP (EU o') c=false:=by cases D:KP (EU o') c with | false=>rfl | true=>exact absurd ((g2 o' ho').1 c (EO.1 D)) hcX'
      simp only[J6,hnm,cond_false];exact(g2 o' ho').2
    . intro D;simp only[nT,SI] at D;rcases D with D | rfl | D
      . exact hX c' (by simp[T5,J]) (List.mem_append.2 (.inl D))
      . exact hN.1 J
      . exact hX c' (by simp[T5,J]) (List.mem_append.2 (.inr D))
  . have⟨d,val,atom,hod,hfr,hin,hsp,hdr⟩:=hd
    suffices H:RI P ops n E Q w0 M I0 listed a w cs dn X pend (⟨c,d,J6 dn (EU o) E,val,atom⟩ :: as) I L ad∧(∀ c'∈T5 cs,c' ∉ NI (⟨c,d,J6 dn (EU o) E,val,atom⟩ :: as)++X) by
      have⟨W,dn',X',V,Z,L',ad',g1,g2,g3,g4,g5,g7,g6⟩:=ih H.1 H.2 hN.2;refine⟨W,dn',X',V,Z,L',ad',g1,g2,g3,λc' J=>jY _ (g4 c' J),λc' J=>?_,λi hi=>g7 i ?_,g6⟩
      . rcases g5 c' J with O | O
        . simp only[NI,nS,SI,T5] at O ⊢;rcases O with rfl | O
          . exact .inr (.inl rfl)
          . exact .inl O
        . exact .inr (jY _ O)
      . simp only[NI,nS,SI,T5] at hi ⊢;rcases hi with O | O | O
        . exact .inl (.inr O)
        . exact .inl (.inl O)
        . exact .inr O
    refine⟨⟨hdr,h.shape,h.sat,h.size,h.defers,h.env,h.lsize,h.val,h.have_,h.dnOk,λi hi=>jY _ (h.inX i hi),h.outX,h.pendL,h.down,?_,?_,?_,?_,?_,h.adNd⟩,λc' J=>?_⟩
    . intro c' J;rcases List.mem_cons.1 J with rfl | J
      . exact λD=>hcX (List.mem_append.2 (.inr D))
      . exact h.asX c' J
    . exact List.nodup_cons.2 ⟨λD=>hcX (List.mem_append.2 (.inl D)),h.asNd⟩
    . intro s U;rcases List.mem_cons.1 U with rfl | U
      . exact⟨hsp,λo' ho'=>by rw[ho] at ho'; cases ho'; exact⟨zC hin,rfl,hfr⟩⟩
      . exact h.asSp s U
    . intro p hp;exact⟨jY _ (h.adOk p hp).1,(h.adOk p hp).2⟩
    . intro s U hl;rcases List.mem_cons.1 U with rfl | U
      . rw[hnl] at hl; cases hl
      . exact h.adAll s U hl
    . simp only[NI,nS,SI,not_or];exact⟨λe=>hN.1 (e▸J),hX c' (by simp[T5,J])⟩
  . exact⟨some c :: cs,dn,X,pend,as,L,ad,h,hX,List.nodup_cons.2 hN,λc hc=>hc,λc hc=>.inl hc,λ_ h=>h,.inr (.inr ⟨c,cs,o,rfl,ho,hd.1,hd.2.1,hd.2.2⟩)⟩
theorem kK {X:List Nat}:∀ {k i:Nat},kI X k=true->i<k->i∈X
 | k+1,i,h,hi=>by
  simp only[kI,aM] at h;by_cases e:i=k
  . subst e; exact EO.1 h.1
  . exact kK h.2 (by omega)
theorem qE {l:List Oper}:∀ (k:Nat),WD l k=true->∀ (i:Nat) (o:Oper),l[i]? = some o->∀ j,j<k+i->j∈EU o:=by
 induction l with
 | nil=>intro k _ i o hi; simp at hi
 | cons o' l J=>
  intro k h i o hi j D;simp only[WD,aM] at h
  cases i with
  | zero=>simp at hi; subst hi; exact kK h.1 (by simpa using D)
  | succ i=>exact J (k+1) h.2 i o (by simpa using hi) j (by omega)
theorem AmH {i:Nat} (hi:i∈Region.ready .any ops listed):i<ops.size∧listed.getD i true=false∧∃ o,ops[i]? = some o∧∀ p∈EU o,listed.getD p false=true:=by rw[mem_ready] at hi;have⟨J,o,D,hp⟩:=hi;refine⟨(Array.getElem?_eq_some_iff.1 D).1,J,o,D,λp h=>?_⟩;obtain⟨e,U,O,rfl⟩:=dC.1 h;exact hp e (by simpa using U) O
theorem ApK {t:Nat} (ht:WD (ops.toList.drop t) t=true) (a2:gZ ops.toList 0=true):∀ (D k:Nat) {listed:Array Bool} {a:Act} {w:World},t<=k->k<=ops.size->listed.size=ops.size->(∀ i,listed.getD i false=true↔i<k)->ops.size<=D+k ->
  wpListIn (WC n) 0 P ops Q (ops.toList.drop k) a w->wpAnyIn (WC n) 0 P .any ops Q D listed a w:=by
 have only:∀ {k:Nat} {listed:Array Bool} {i:Nat},t<=k->listed.size=ops.size->(∀ i,listed.getD i false=true↔i<k)->i∈Region.ready .any ops listed->i=k∧i<ops.size:=by
  intro k listed i U O V hi;have⟨h1,W,o,ho,hp⟩:=AmH hi;refine⟨?_,h1⟩
  have a7:¬i<k:=λh=>by
    have:=(V i).2 h;have J:i<listed.size:=by omega
    simp only[jZ,Ah0 J,xA] at this W;rw[this] at W; cases W
  rcases ZZ k i with h3 | h3
  . have Z:k∈EU o:=qE t ht (i - t) o (by rw[AoS,show t+(i - t)=i by omega,Ae8]; exact ho) k (by omega);have:=(V k).1 (hp k Z); omega
  . omega
 intro D
 induction D with
 | zero=>
  intro k listed a w U hk O V hf h;have e:k=ops.size:=by omega
  refine⟨?_,?_⟩
  . cases hr:Region.ready .any ops listed with
    | nil=>rfl
    | cons i r=>have:=only U O V (i:=i) (by rw[hr]; simp); omega
  . rw[e,List.drop_of_length_le (by simp)] at h; exact h
 | succ D ih=>
  intro k listed a w U hk O V hf h;refine⟨λhr=>?_,λi hi=>?_⟩
  . have e:k=ops.size:=by
      rcases ZZ k ops.size with J | a6
      . exfalso
        have:k∈Region.ready .any ops listed:=by
         rw[mem_ready];have a5:k<listed.size:=by omega
         refine⟨?_,ops[k],by simp[J],λe he hb=>?_⟩
         . cases hv:listed.getD k true with
           | false=>rfl
           | true=>
            have:listed.getD k false=true:=by simp only[jZ,Ah0 a5,xA] at hv ⊢; exact hv
            have:=(V k).1 this; omega
         . have Z:e.on∈EU ops[k]:=dC.2 ⟨e,by simpa using he,hb,rfl⟩;have:=qD 0 a2 k ops[k] (by rw[Ae8]; simp[J]) e.on Z;exact(V e.on).2 (by omega)
        rw[hr] at this; cases this
      . omega
    rw[e,List.drop_of_length_le (by simp)] at h; exact h
  . obtain⟨rfl,J⟩:=only U O V hi
    have hd:ops.toList.drop i=ops[i] :: ops.toList.drop (i+1):=by rw[AoP (by simpa using J)]; simp
    rw[hd] at h;have a4:ops[i]? = some ops[i]:=by simp[J]
    have a3:∀ j,(listed.setIfInBounds i true).getD j false=true↔j<i+1:=λj=>by rw[HE (by omega),V j]; omega
    have step:∀ a w,wpListIn (WC n) 0 P ops Q (ops.toList.drop (i+1)) a w->wpAnyIn (WC n) 0 P .any ops Q D (listed.setIfInBounds i true) a w:=λa w h'=>
      ih (i+1) (by omega) (by omega) (by simpa using O) a3 (by omega) h'
    simp only[wpOpIn,a4];unfold wpListIn at h;split
    . rename_i hw;rw[if_pos hw] at h;exact Oper.wpIn_mono step h
    . rename_i hw;rw[if_neg hw] at h;exact⟨h.1,step _ _ h.2⟩
theorem dE (d:Nat):∀ E:DG,fresh (rmE d E) d=true
 | []=>rfl
 | p :: r=>by
  simp only[rmE]
  cases h:Nat.beq p.1 d with
  | true=>simpa using dE d r
  | false=>simp[fresh,h,dE d r]
theorem Ab0 {a:Act} (d:Nat):∀ {E:DG},EnvOk E a->EnvOk (rmE d E) a
 | [],_=>trivial
 | p :: r,h=>by
  simp only[rmE]
  cases D:Nat.beq p.1 d with
  | true=>simpa using Ab0 d h.2
  | false=>exact⟨h.1,Ab0 d h.2⟩
theorem Ae9 {o:Oper} {d:Nat} (D:o.dst=some d):fresh (X1 o E) d=true:=by
 simp only[X1,D]
 cases h:fresh E d with
 | true=>exact h
 | false=>exact dE d E
theorem ApL {o:Oper} {a:Act} (h:EnvOk E a):EnvOk (X1 o E) a:=by
 simp only[X1];split
 . exact h
 . rename_i d _
   cases D:fresh E d with
   | true=>exact h
   | false=>exact Ab0 d h
theorem AmI {t:Nat} (l1:gY n (ops.toList.take t) []=true) (i6:gZ ops.toList 0=true) (i7:WD (ops.toList.drop t) t=true) (ht:t<=ops.size):∀ (a7:Nat) {E:DG} {listed:Array Bool} {a:Act} {w:World} {cs:List (Option Nat)} {dn:HQ} {X pend:List Nat} {as:List AS} {I:IH} {L:Sh} {ad:List (AS×Nat)},
  RI P ops n E Q w0 M I0 listed a w cs dn X pend as I L ad->(∀ c∈T5 cs,c ∉ NI as++X)->(T5 cs).Nodup->(∀ c∈T5 cs,c<t)->(∀ c∈NI as++X,c<t)->(∀ i,i<t->i∈NI as++X∨i∈T5 cs)->ops.size<=a7+(listed.toList.filter id).length->wpAnyIn (WC n) 0 P .any ops Q a7 listed a w:=by
 -- all of the first t have k8: the tail
 have h6:∀ {a7:Nat} {E:DG} {listed:Array Bool} {a:Act} {w:World} {cs:List (Option Nat)} {dn:HQ} {X pend:List Nat} {as:List AS} {I:IH} {L:Sh} {ad:List (AS×Nat)},RI P ops n E Q w0 M I0 listed a w cs dn X pend as I L ad->(∀ c∈T5 cs,c ∉ NI as++X)->(T5 cs).Nodup->(∀ c∈T5 cs,c<t)->(∀ c∈NI as++X,c<t) ->
    (∀ i,i<t->listed.getD i false=true)->ops.size<=a7+t->wpAnyIn (WC n) 0 P .any ops Q a7 listed a w:=by
  intro a7 E listed a w cs dn X pend as I L ad a2 hX hN b1 a9 a4 hf;have⟨f4,a8,X',l9,d1,L',d0,D,d8,d7,e2,f5,_,f6⟩:=a2.norm hX hN;have a6:∀ c∈NI d1++X',c<t:=λc Z=>(f5 c Z).elim (a9 c) (b1 c);rcases f6 with rfl | ⟨r,rfl,c,Z,V⟩ | ⟨c,r,o,rfl,ho,_⟩
  . have hd:=D.draw;simp only[DrawD] at hd;obtain⟨rfl,t',e3,l4,_,g8⟩:=hd
    have j2:d0=[]:=by
      cases d0 with
      | nil=>rfl
      | cons p r=>have:=(D.adOk p (by simp)).1; cases this
    subst j2;simp only[NI,AdY] at a6;have i3:∀ i,listed.getD i false=true->i∈X':=λi hi=>by simpa[NI] using D.inX i hi
    have e:t'=t:=by
      rcases Nat.lt_trichotomy t' t with J | J | J
      . have:=l4 t' (i3 t' (a4 t' J)); omega
      . exact J
      . have:=a6 t (Y8 e3 J); omega
    subst e;refine ApK i7 i6 a7 t' (Y3 _) ht D.lsize (λi=>⟨λhi=>a6 i (i3 i hi),a4 i⟩) hf (g8 a w ⟨D.size,D.defers,Ak3 D.env λi d v O=>?_⟩ D.sat);exact D.val i d v O (a4 i (a6 i (D.dnOk i d v O).1))
  . rw[a4 c (a6 c (List.mem_append.2 (.inl Z)))] at V; cases V
  . have:=a4 c (b1 c (e2 c (by simp[T5])));exact absurd (D.inX c this) (d8 c (by simp[T5]))
 -- something is always left to do, where one of the first t has not k8
 have m0:∀ {listed:Array Bool},listed.size=ops.size->Region.ready .any ops listed=[]->∀ i,i<ops.size->listed.getD i false=true:=by
  intro listed i0 hr i
  induction i using Nat.strongRecOn with
  | _ i ih=>
    intro hi
    cases V:listed.getD i false with
    | true=>rfl
    | false=>
      exfalso;obtain⟨o,ho⟩:∃ o,ops[i]? = some o:=⟨ops[i],by simp[hi]⟩
      have:i∈Region.ready .any ops listed:=by
        rw[mem_ready];refine⟨?_,o,ho,λe he W=>?_⟩
        . have d9:i<listed.size:=by rw[i0]; exact hi
          simp only[jZ,Ah0 d9,xA] at V ⊢; exact V
        . have O:e.on∈EU o:=dC.2 ⟨e,by simpa using he,W,rfl⟩;have:=qD 0 i6 i o (by rw[Ae8]; exact ho) e.on O;exact ih e.on (by omega) (by omega)
      rw[hr] at this; cases this
 have i9:∀ {listed:Array Bool},(∀ i,listed.getD i false=true↔i<t)->listed.size=ops.size->(listed.toList.filter id).length=t:=by
  intro listed V i0;have m1:=ht
  have e:listed.toList=List.replicate t true++List.replicate (ops.size - t) false:=by
    apply Ah3;intro i;by_cases hi:i<ops.size
    . have d9:i<listed.size:=by omega
      have hv:=V i;simp only[jZ,Ah0 d9,xA] at hv;rw[show listed.toList[i]? = some listed[i] by simp[d9]];by_cases J:i<t
      . rw[kA (by simpa using J)]; simp[J,hv.2 J]
      . rw[wW (by simpa using Nat.le_of_not_lt J)];have:listed[i]=false:=by cases W:listed[i] with | false=>rfl | true=>exact absurd (hv.1 W) J
        rw[this,At0,List.getElem?_replicate,if_pos (by omega)]
    . rw[AdP (by simp; omega),AdP (by simp; omega)]
  rw[e]; simp
 intro a7
 induction a7 with
 | zero=>
  intro E listed a w cs dn X pend as I L ad a2 hX hN b1 a9 i2 hf
  have a4:∀ i,i<ops.size->listed.getD i false=true:=by
    intro i hi
    have l3:(listed.toList.filter id).length=listed.toList.length:=by have J:=wX id listed.toList;have h2:=a2.lsize;simp only[Ah2] at J ⊢;omega
    have:=List.length_filter_eq_length_iff.1 l3;have d9:i<listed.size:=by rw[a2.lsize]; exact hi
    have hx:=this listed[i] (by simp);simpa[jZ,Ah0 d9] using hx
  have e:t=ops.size:=by
    rcases ZZ t ops.size with J | J
    . have:=a9 t (a2.inX t (a4 t J)); omega
    . omega
  exact h6 a2 hX hN b1 a9 (λi hi=>a4 i (by omega)) (by omega)
 | succ a7 ih=>
  intro E listed a w cs dn X pend as I L ad a2 hX hN b1 a9 i2 hf;by_cases a4:∀ i,i<t->listed.getD i false=true
  . have l2:∀ i,listed.getD i false=true↔i<t:=λi=>⟨λhi=>a9 i (a2.inX i hi),a4 i⟩;have:=i9 l2 a2.lsize;exact h6 a2 hX hN b1 a9 a4 (by omega)
  refine⟨λhr=>absurd (λi hi=>m0 a2.lsize hr i (by omega)) a4,λi hi=>?_⟩;rw[mem_ready] at hi;have⟨h7,o,ho,l5⟩:=hi;have hi:=(Array.getElem?_eq_some_iff.1 ho).1;have a3:i<listed.size:=by rw[a2.lsize]; exact hi
  have f2:listed.getD i false=false:=by simp only[jZ,Ah0 a3,xA] at h7 ⊢; exact h7
  have d6:∀ p∈EU o,listed.getD p false=true:=λp hp=>by obtain⟨e,he,W,rfl⟩:=dC.1 hp;exact l5 e (by simpa using he) W
  have f9:i<t:=by
    rcases ZZ i t with J | J
    . exact J
    . exact absurd (λj h=>d6 j (qE t i7 (i - t) o (by rw[AoS,show t+(i - t)=i by omega,Ae8]; exact ho) j (by omega))) a4
  have h5:ops.size<=a7+((listed.setIfInBounds i true).toList.filter id).length:=by
    have:((listed.setIfInBounds i true).toList.filter id).length=(listed.toList.filter id).length+1:=by
      rw[Array.toList_setIfInBounds]
      have W:listed.toList[i]? = some false:=by simp only[jZ,Ah0 a3,xA] at f2;simp[a3,f2]
      have key:∀ (l:List Bool) (i:Nat),l[i]? = some false->((l.set i true).filter id).length=(l.filter id).length+1:=by
        intro l
        induction l with
        | nil=>intro i a2; simp at a2
        | cons b l k7=>
          intro i a2
          cases i with
          | zero=>simp at a2; subst a2; simp
          | succ i=>
            have:=k7 i (by simpa using a2);simp only[Ap2,AoV];split <;> simp[this]
      exact key _ i W
    omega
  have⟨f4,a8,X',l9,d1,L',d0,D,d8,d7,e2,f5,l6,f6⟩:=a2.norm hX hN;have a6:∀ c∈NI d1++X',c<t:=λc Z=>(f5 c Z).elim (a9 c) (b1 c);have g7:∀ c∈T5 f4,c<t:=λc Z=>b1 c (e2 c Z);have e7:∀ i,i<t->i∈NI d1++X'∨i∈T5 f4:=λi hi=>l6 i (i2 i hi);clear a2 hX hN
  have j6:∀ d,o.dst=some d->Nat.blt d n.sz=true∧∀ j o',j<t->ops[j]? = some o'->o'.dst=some d->j=i:=λd hd=>by have⟨g1,_,g4⟩:=Ae7 [] l1 i o d (by rw[wZ,if_pos f9,Ae8]; exact ho) hd;exact⟨g1,λj o' g5 h=>g4 j o' (by rw[wZ,if_pos g5,Ae8]; exact h)⟩
  have i8:∀ {a':Act} {v:Value} {j d':Nat} {v':Value} {o':Oper},a'=a.put o.dst v->j<t->j≠i->ops[j]? = some o'->o'.dst=some d'->a.tmps[d']? = some v'->a'.tmps[d']? = some v':=by
    intro a' v j d' v' o' b0 g5 c0 a5 e4 hv;subst b0
    cases hd:o.dst with
    | none=>exact hv
    | some d=>
      have j5:¬d=d':=λe=>by subst e; exact c0 ((j6 d hd).2 j o' g5 a5 e4)
      simp only[Act.put,AoN,if_neg j5];exact hv
  have f3:∀ {a':Act} {v:Value},a'=a.put o.dst v->a'.tmps.size=n.sz∧(∀ E2:DG,(∀ d,o.dst=some d->fresh E2 d=true)->EnvOk E2 a->EnvOk E2 a')∧(∀ j d' v',(j,d',v')∈a8->j≠i->listed.getD j false=true->a'.tmps[d']? = some v') ∧
      (∀ p∈d0,p.1.i≠i->a'.tmps[p.1.d]? = some (p.1.val p.2)):=by
    intro a' v b0;refine⟨?_,λE2 e5 hE=>?_,λj d' v' O c0 V=>?_,λp hp c0=>?_⟩
    . subst b0; cases hd:o.dst <;> simp[Act.put,D.size]
    . subst b0
      cases hd:o.dst with
      | none=>exact hE
      | some d=>exact hE.put (e5 d hd) v
    . have⟨g1,_,o',a5,e4⟩:=D.dnOk j d' v' O;exact i8 b0 (a6 j (List.mem_append.2 (.inr g1))) c0 a5 e4 (D.val j d' v' O V)
    . have⟨g1,g2,g3⟩:=D.adOk p hp;have⟨o',a5,e4,_⟩:=(D.asSp _ g1).1;exact i8 b0 (a6 _ (List.mem_append.2 (.inl (V4.2 ⟨_,g1,rfl⟩)))) c0 a5 e4 g3
  have l7:∀ {js:List Nat},(∀ p∈js,listed.getD p false=true)->Ok n (J6 a8 js E) a:=λh=>⟨D.size,D.defers,Ak2 D.env λj d v O k0=>D.val j d v O (h j k0)⟩;have g9:Ok n (J6 a8 (EU o) E) a:=l7 d6
  have h0:∀ j o',(listed.setIfInBounds i true).getD j false=true->ops[j]? = some o'->∀ p∈EU o',(listed.setIfInBounds i true).getD p false=true:=by
    intro j o' h a5 p hp;rw[HE a3] at h ⊢;rcases h with rfl | h
    . rw[ho] at a5; cases a5; exact .inr (d6 p hp)
    . exact .inr (D.down j o' h a5 p hp)
  have i1:∀ p∈d0,p.1.i≠i:=λp hp e=>by have:=(D.adOk p hp).2.1;rw[e,f2] at this; cases this
  have g6:∀ {a':Act} {v:Value},a'=a.put o.dst v->∀ p∈d0,p.1∈d1∧(listed.setIfInBounds i true).getD p.1.i false=true∧a'.tmps[p.1.d]? = some (p.1.val p.2):=λb0 p hp=>
    ⟨(D.adOk p hp).1,(HE a3).2 (.inr (D.adOk p hp).2.1),(f3 b0).2.2.2 p hp (i1 p hp)⟩
  by_cases hiX:i∈X'
  . -- a step that was shown already
    have j9:=D.outX i hiX f2;have⟨o2,d,v,J,h2,e5,h3,h4⟩:=D.pendL.get i j9;rw[ho] at J; cases J;refine sY D.defers ho (λe a w hq=>⟨hq.1,hq.2.1⟩) (h4 _ a w g9 D.sat) λa' w' d5 hp=>?_;have⟨v',c2⟩:=hp;have⟨g1,g2,g3,_⟩:=f3 c2;refine ih ⟨D.draw,D.shape,d5.2.2.2,g1,d5.2.1,g2 _ (λd2 d4=>by rw[h2] at d4; cases d4; exact e5) D.env,by simpa using D.lsize,?_,D.have_,D.dnOk,?_,?_,D.pendL,h0,D.asX,D.asNd,D.asSp,g6 c2,?_,D.adNd⟩ d8 d7 g7 a6 e7 h5
    . intro j d' v2 O V;by_cases e:j=i
      . subst e;have d4:=(D.dnOk j d' v2 O).2.1;rw[h3] at d4;cases d4;exact d5.2.2.1
      . exact g3 j d' v2 O e (((HE a3).1 V).resolve_left e)
    . intro j h;rcases(HE a3).1 h with rfl | h
      . exact List.mem_append.2 (.inr hiX)
      . exact D.inX j h
    . intro j h V;refine D.outX j h ?_
      cases hl':listed.getD j false with
      | false=>rfl
      | true=>rw[(HE a3).2 (.inr hl')] at V; cases V
    . intro s hs V;rcases(HE a3).1 V with e | V
      . exact absurd hiX (D.asX i (V4.2 ⟨s,hs,e⟩))
      . exact D.adAll s hs V
  . by_cases hia:i∈NI d1
    . -- a step that makes a block
      obtain⟨s,hs,rfl⟩:=V4.1 hia;have⟨⟨o2,e6,d4,hsp⟩,hen⟩:=D.asSp s hs;rw[ho] at e6; cases e6;have⟨_,k4,e5⟩:=hen o ho;refine sY D.defers ho (λe a w hq=>⟨hq.1,hq.2.1⟩) (hsp _ _ D.shape _ a w (by rw[<-k4]; exact g9) D.sat) λa' w' d5 hp=>?_;have⟨v',c2⟩:=hp;have⟨g1,g2,g3,_⟩:=f3 c2;have⟨_,f7,b,W,k6⟩:=d5;refine ih (ad:=(s,b) :: d0) ⟨D.draw,D.shape,k6,g1,f7,g2 _ (λd3 e8=>by rw[d4] at e8; cases e8; exact e5) D.env,by simpa using D.lsize,?_,D.have_,D.dnOk,?_,?_,D.pendL,h0,D.asX,D.asNd,D.asSp,?_,?_,?_⟩ d8 d7 g7 a6 e7 h5
      . intro j d' v2 O V;have c0:j≠s.i:=λe=>hiX (e▸(D.dnOk j d' v2 O).1);exact g3 j d' v2 O c0 (((HE a3).1 V).resolve_left c0)
      . intro j h;rcases(HE a3).1 h with rfl | h
        . exact List.mem_append.2 (.inl hia)
        . exact D.inX j h
      . intro j h V;refine D.outX j h ?_
        cases hl':listed.getD j false with
        | false=>rfl
        | true=>rw[(HE a3).2 (.inr hl')] at V; cases V
      . intro p hp;rcases List.mem_cons.1 hp with rfl | hp
        . exact⟨hs,(HE a3).2 (.inl rfl),W⟩
        . exact g6 c2 p hp
      . intro s' h9 V;rcases(HE a3).1 V with e | V
        . have h8:=D.asNd;rw[rS] at h8;rw[QO h8 h9 hs e];exact⟨b,by simp⟩
        . have⟨b',j3⟩:=D.adAll s' h9 V;exact⟨b',jY _ j3⟩
      . simp only[NM,sS,gW,not_exists,not_and];exact⟨λp hp=>i1 p hp,D.adNd⟩
    have f8:i ∉ NI d1++X':=λO=>(List.mem_append.1 O).elim hia hiX
    -- the next step that turns memory
    rcases f6 with rfl | ⟨r,rfl,c,Z,V⟩ | ⟨c,r,o2,rfl,e6,j4,k9,p',k3,g8⟩
    . exact absurd ((e7 i f9).resolve_right (by simp[T5])) f8
    . have hd:=D.draw;simp only[DrawD] at hd;rcases AhE 0 hd.1 i o (by rw[Ae8]; exact ho) with W | W | W
      . exact absurd (by simpa using W) f8
      . exact absurd (λp hp=>D.inX p (d6 p hp)) W
      . rw[d6 c (W c Z)] at V; cases V
    . have j8:i=c:=by
        rcases AaZ 0 j4 i o (by rw[Ae8]; exact ho) with W | W | W
        . exact absurd (by simpa using W) f8
        . simpa using W
        . exact absurd (λp hp=>D.inX p (d6 p hp)) W
      subst j8;rw[ho] at e6; cases e6;refine sY D.defers ho (λe a w hq=>⟨hq.1,hq.2.1⟩) (g8 _ a w g9 D.sat) λa' w' d5 hp=>?_;have⟨v',c2⟩:=hp;have⟨g1,g2,g3,_⟩:=f3 c2;have⟨_,f7,_,_,f1,U,k5,j1,k2,j7⟩:=d5;simp only[T5,sS] at d7;have i4:∀ d v,(i,d,v) ∉ a8:=λd v O=>hiX (D.dnOk i d v O).1
      have e2:∀ j d v,(j,d,v)∈f1->(j,d,v)∈a8∨(j=i∧o.dst=some d∧a'.tmps[d]? = some v):=by
        intro j d v O;unfold fS at U
        cases c1:o.dst with
        | none=>rw[c1] at U; subst U; exact .inl O
        | some d2=>
          rw[c1] at U;obtain⟨v2,e1,rfl⟩:=U
          cases O with
          | head=>exact .inr ⟨rfl,rfl,e1⟩
          | tail _ O=>exact .inl O
      have i5:∀ j d v,(j,d,v)∈a8->(j,d,v)∈f1∧HX f1 j=HX a8 j:=by
        intro j d v O;have e9:j≠i:=λe=>by subst e; exact i4 _ _ O
        unfold fS at U
        cases c1:o.dst with
        | none=>rw[c1] at U; subst U; exact⟨O,rfl⟩
        | some d2=>
          rw[c1] at U;obtain⟨v2,e1,rfl⟩:=U;exact⟨jY _ O,by simp only[HX,tA (Ne.symm e9),cond_false]⟩
      have l8:∀ {js:List Nat},i ∉ js->J6 f1 js E=J6 a8 js E:=by
        intro js h;unfold fS at U
        cases c1:o.dst with
        | none=>rw[c1] at U; subst U; rfl
        | some d2=>
          rw[c1] at U;obtain⟨v2,e1,rfl⟩:=U;have k1:KP js i=false:=by cases O:KP js i with | false=>rfl | true=>exact absurd (EO.1 O) h
          simp only[J6,k1,cond_false]
      refine ih ⟨j7,k5,j1,g1,f7,g2 _ (λd3 e8=>Ae9 e8) (ApL D.env),by simpa using D.lsize,?_,?_,?_,?_,?_,k2,h0,?_,D.asNd,?_,g6 c2,?_,D.adNd⟩ (λc' e3 O=>?_) d7.2 (λc Z=>g7 c (jY _ Z)) (λc Z=>?_) (λj h=>?_) h5
      . intro j d v O V;rcases e2 j d v O with O | ⟨rfl,_,hv⟩
        . have e9:j≠i:=λe=>by subst e; exact i4 _ _ O
          exact g3 j d v O e9 (((HE a3).1 V).resolve_left e9)
        . exact hv
      . intro j o2 d h hd O;rcases List.mem_cons.1 O with rfl | O
        . rw[ho] at h; cases h;unfold fS at U;rw[hd] at U;obtain⟨v2,_,rfl⟩:=U;exact⟨v2,by simp⟩
        . have⟨v,hv⟩:=D.have_ j o2 d h hd O;exact⟨v,(i5 j d v hv).1⟩
      . intro j d v O;rcases e2 j d v O with f0 | ⟨rfl,hd,hv⟩
        . exact⟨jY _ (D.dnOk j d v f0).1,(i5 j d v f0).2.trans (D.dnOk j d v f0).2.1,(D.dnOk j d v f0).2.2⟩
        . refine⟨by simp,?_,o,ho,hd⟩;unfold fS at U;rw[hd] at U;obtain⟨v2,e1,rfl⟩:=U;rw[hv] at e1; cases e1;simp[HX]
      . intro j h;simp only[nT,SI];rcases(HE a3).1 h with rfl | h
        . exact .inr (.inl rfl)
        . exact(List.mem_append.1 (D.inX j h)).imp id .inr
      . intro j h V
        have g0:listed.getD j false=false:=by
          cases hl':listed.getD j false with
          | false=>rfl
          | true=>rw[(HE a3).2 (.inr hl')] at V; cases V
        rcases List.mem_cons.1 h with rfl | h
        . rw[(HE a3).2 (.inl rfl)] at V; cases V
        . rcases k3 j (D.outX j h g0) with J | ⟨k,J⟩
          . exact J
          . rw[AhD D.down k j i o ho d6 J] at g0; cases g0
      . intro c Z O;rcases List.mem_cons.1 O with rfl | O
        . exact hia Z
        . exact D.asX c Z O
      . intro s hs;have⟨q1,q2⟩:=D.asSp s hs;have j0:X1 o E=E:=k9.resolve_left λe=>by subst e; cases hs
        refine⟨q1,λo' a5=>⟨λp hp=>jY _ ((q2 o' a5).1 p hp),?_⟩⟩;rw[j0,l8 λO=>hiX ((q2 o' a5).1 i O)];exact(q2 o' a5).2
      . intro s hs V;rcases(HE a3).1 V with e | V
        . exact absurd (V4.2 ⟨s,hs,e⟩) hia
        . exact D.adAll s hs V
      . simp only[nT,SI] at O;rcases O with O | rfl | O
        . exact d8 c' (by simp[T5,e3]) (List.mem_append.2 (.inl O))
        . exact d7.1 e3
        . exact d8 c' (by simp[T5,e3]) (List.mem_append.2 (.inr O))
      . simp only[nT,SI] at Z;rcases Z with Z | rfl | Z
        . exact a6 c (List.mem_append.2 (.inl Z))
        . exact f9
        . exact a6 c (List.mem_append.2 (.inr Z))
      . have:=e7 j h;simp only[nT,SI,T5] at this ⊢;rcases this with(J | J) | rfl | J
        . exact .inl (.inl J)
        . exact .inl (.inr (.inr J))
        . exact .inl (.inr (.inl rfl))
        . exact .inr J
def tC:List Nat->Bool
 | []=>true
 | x :: l=>!KP l x && tC l
theorem qF:∀ {l:List Nat},tC l=true->l.Nodup
 | [],_=>.nil
 | x :: l,h=>by simp only[tC,aM,Bool.not_eq_true'] at h;exact List.nodup_cons.2 ⟨sZ h.1,qF h.2⟩
theorem Cod.draw {id:Nat} {l:List Oper} {I:IH} (cs:List (Option Nat)) (t:Nat) (V:P.follows .mixedOrders=true) (W:gY n (l.take t) []=true) (h2:gZ l 0=true)
   (h3:WD (l.drop t) t=true) (h4:tC (T5 cs)=true) (O:Nat.ble t l.length=true) (Z:(T5 cs).all (Nat.blt · t)=true) (U:R7 (T5 cs) t=true) (L:Sh) (hL:∀ X ex,Del (L (X :: ex)) X (L ex)) (he:l0=L [])
   (h:DrawD P l.toArray n Q w0 M I0 E cs [] [] [] [] I L):Cod P (.region id l.toArray true) n E (Sym w0 M I0 I l0) Q:=by
 intro a w D J
 refine wpIn_region_any V (AmI (t:=t) (by simpa using W) (by simpa using h2) (by simpa using h3) (by simpa using O) _ (cs:=cs) (dn:=[]) (X:=[]) (pend:=[]) (as:=[]) (I:=I) (L:=L) (ad:=[])
   ⟨h,λX ex=>(hL X ex).perm,by rw[he] at J; exact J.drew _ (Ak1 _),D.size,D.defers,D.env,by simp,by simp,by simp,by simp,?_,by simp,trivial,?_,by simp[NI],by simp[NI],by simp,by simp,by simp,by simp⟩ (by simp[NI]) (qF h4) (λc hc=>by have:=List.all_eq_true.1 Z c hc; simpa[Nat.blt_eq] using this) (by simp[NI]) (λi hi=>.inr (Y8 U hi)) (by simp))
 . intro i hi;simp only[jZ,Array.getElem?_replicate] at hi;split at hi <;> simp at hi
 . intro i o hi;simp only[jZ,Array.getElem?_replicate] at hi;split at hi <;> simp at hi
section
variable {cs:List (Option Nat)} {c d:Nat} {dn:HQ} {X pend:List Nat} {as:List AS} {I:IH} {L:Sh} {o:Oper} {v:Value}
theorem DrawD.f (js:List Nat) (U:ops[c]? = some o) (O:EU o=js) (J:o.dst=some d) (D:fresh E d=true)
  (h:∀ ex,Ops P ops [o] n (J6 dn js E) (Sym w0 M I0 I (L ex)) (Fin n (Sym w0 M I0 I (L ex)) d v)) (k:DrawD P ops n Q w0 M I0 E cs ((c,d,v) :: dn) (c :: X) (c :: pend) as I L):DrawD P ops n Q w0 M I0 E (some c :: cs) dn X pend as I L:=
 ⟨o,U,.inl ⟨d,v,J,D,by rw[O]; exact h,k⟩⟩
theorem Fin.mk {S:World->Prop} {d:Nat} {v:Value} {E:DG}:Ops P ops [] n ((d,v) :: E) S (Fin n S d v):=λ_ _ h D=>⟨rfl,h.defers,h.env.1,D⟩
def APost (n:FrK) (w0:World) (M:Nat->Prop) (I0 I:IH) (d:Nat) (val:Nat->Value) (atom:Nat->HA) (L:Sh) (ex:List HA):Exit->Act->World->Prop:=λe a w=>e=.normal∧a.defers=n.defs∧∃ b,a.tmps[d]? = some (val b)∧Sym w0 M I0 I (L (atom b :: ex)) w
theorem APost.mk {val:Nat->Value} {atom:Nat->HA} (J:ShOk L) (b:Nat) {E':DG}:Ops P ops [] n ((d,val b) :: E') (Sym w0 M I0 I (atom b :: L ex)) (APost n w0 M I0 I d val atom L ex):=
 λ_ _ h D=>⟨rfl,h.defers,b,h.env.1,D.perm (J _ _).symm⟩
theorem DrawD.a (val:Nat->Value) (atom:Nat->HA) (O:ops[c]? = some o) (J:o.dst=some d) (D:fresh E d=true) (hi:AaY X (EU o)=true)
  (h:∀ (I:IH) (L:Sh),ShOk L->∀ ex,Ops P ops [o] n (J6 dn (EU o) E) (Sym w0 M I0 I (L ex)) (APost n w0 M I0 I d val atom L ex))
  (k:DrawD P ops n Q w0 M I0 E cs dn X pend (⟨c,d,J6 dn (EU o) E,val,atom⟩ :: as) I L):DrawD P ops n Q w0 M I0 E (some c :: cs) dn X pend as I L:=
 ⟨o,O,.inr (.inl ⟨d,val,atom,J,D,hi,⟨o,O,J,h⟩,k⟩)⟩
theorem DrawD.b (J:Ae5 (NI as) X ops.toList 0=true) (k:barD as dn L λh D=>DrawD P ops n Q w0 M I0 E cs h (NI as++X) pend [] I D):DrawD P ops n Q w0 M I0 E (none :: cs) dn X pend as I L:=⟨J,k⟩
theorem DrawD.nop (h:DrawD P ops n Q w0 M I0 E cs dn X pend as I L):DrawD P ops n Q w0 M I0 E cs dn X pend as I L:=h
def WPost (P:Program) (ops:Array Oper) (n:FrK) (E:DG) (Q:Exit->Act->World->Prop) (w0:World) (M:Nat->Prop) (I0:IH) (o:Oper) (c:Nat) (cs:List (Option Nat)) (dn:HQ) (X h:List Nat) (as:List AS) (ex:List HA):Exit->Act->World->Prop:=
 λe a w=>e=.normal∧a.defers=n.defs∧∃ O J D,fS o c dn a D∧ShOk J∧Sym w0 M I0 O (J ex) w∧PendL P ops n E D (λex=>Sym w0 M I0 O (J ex)) h∧DrawD P ops n Q w0 M I0 E cs D (c :: X) h as O J
theorem WPost.some {h:List Nat} {E':DG} (L:Sh) (U:l0=L ex) (V:∀ X ex,Del (L (X :: ex)) X (L ex)) (O:o.dst=some d) (hp:PendL P ops n E ((c,d,v) :: dn) (λex=>Sym w0 M I0 I (L ex)) h)
  (k:DrawD P ops n Q w0 M I0 E cs ((c,d,v) :: dn) (c :: X) h as I L):Ops P ops [] n ((d,v) :: E') (Sym w0 M I0 I l0) (WPost P ops n E Q w0 M I0 o c cs dn X h as ex):=
 λ_ _ J D=>⟨rfl,J.defers,I,L,_,by unfold fS; rw[O]; exact⟨v,J.env.1,rfl⟩,λX ex=>(V X ex).perm,by rw[U] at D; exact D,hp,k⟩
theorem WPost.none {h:List Nat} {E':DG} (L:Sh) (O:l0=L ex) (V:∀ X ex,Del (L (X :: ex)) X (L ex)) (J:o.dst=none) (hp:PendL P ops n E dn (λex=>Sym w0 M I0 I (L ex)) h)
  (k:DrawD P ops n Q w0 M I0 E cs dn (c :: X) h as I L):Ops P ops [] n E' (Sym w0 M I0 I l0) (WPost P ops n E Q w0 M I0 o c cs dn X h as ex):=
 λ_ _ U D=>⟨rfl,U.defers,I,L,_,by unfold fS; rw[J],λX ex=>(V X ex).perm,by rw[O] at D; exact D,hp,k⟩
theorem DrawD.e (t:Nat) (D:R7 X t=true) (J:X.all (Nat.blt · t)=true) (O:WD (ops.toList.drop t) t=true) (k:Ops P ops (ops.toList.drop t) n (ApI dn E) (Sym w0 M I0 I (L [])) Q):DrawD P ops n Q w0 M I0 E [] dn X pend [] I L:=
 ⟨rfl,t,D,λx h=>by have:=List.all_eq_true.1 J x h; simpa[Nat.blt_eq] using this,O,k⟩
end
end
section
variable {w0 w:World} {M:Nat→Prop} {I0 I:IH} {m m':List HA}
variable {P:Program} {n:FrK} {E:DG} {S:World→Prop} {Q:Exit→Act→World→Prop} {ops:Array Oper} {l:List Oper}
variable {d ty:Nat} {pos:String} {af:Array Edge} {T e:TypeId} {x y:Operand}
variable {α:Type} {El:EC α} {xs ys:List α} {a:Option Addr} {cap:Nat}
/-! ### Changes of what is known -/
variable {fn:Func} {rs:List ResultVar} {ψ:IH→Value→Prop} {ds:List Nat}
theorem Cod.drop {c:Code} {A:HA} (D:Del m A m') (k:Cod P c n E (Sym w0 M I0 I m') Q):Cod P c n E (Sym w0 M I0 I m) Q:=Cod.pre (λ_ h=>(h.del D).drop) k
theorem Ops.own0 (El:EC α) (T:TypeId) (k:Ops P ops l n E (Sym w0 M I0 I (OwnSl El T none 0 [] :: m)) Q):Ops P ops l n E (Sym w0 M I0 I m) Q:=Ops.pre (λ_ h=>h.own0 El T) k
theorem Cod.own0 {c:Code} (El:EC α) (T:TypeId) (k:Cod P c n E (Sym w0 M I0 I (OwnSl El T none 0 [] :: m)) Q):Cod P c n E (Sym w0 M I0 I m) Q:=Cod.pre (λ_ h=>h.own0 El T) k
theorem Ops.pub (J:Del m (OwnSl El T a cap xs) m') (k:∀ h,I.le h->RepSl El h a cap xs->Ops P ops l n E (Sym w0 M I0 h m') Q):Ops P ops l n E (Sym w0 M I0 I m) Q:=
 λc w V U=>by have⟨h,D,O,W⟩:=U.pubSl J; exact k h D O c w V W
theorem Cod.pub {c:Code} (J:Del m (OwnSl El T a cap xs) m') (k:∀ h,I.le h->RepSl El h a cap xs->Cod P c n E (Sym w0 M I0 h m') Q):Cod P c n E (Sym w0 M I0 I m) Q:=
 λc w V U=>by have⟨h,D,O,W⟩:=U.pubSl J; exact k h D O c w V W
theorem nY {f:FuncId} {args:Array Value} {R:Ending->World->Prop} (h:Calls P f args w R):CallsIn (WC n) 0 P f args w R:=callsIn_wide.2 h
def evs (E:DG):List Operand->Option (List Value)
 | []=>some []
 | x :: r=>match ev E x,evs E r with
  | some v,some vs=>some (v :: vs)
  | _,_=>none
theorem V5 {c:Act} (J:Ok n E c):∀ {xs:List Operand} {vs:List Value},evs E xs=some vs->xs.map c.eval=vs:=by
 intro xs
 induction xs with
 | nil=>grind[evs]
 | cons x r D=>
  intro vs h;simp only[evs] at h
  cases O:ev E x with
  | none=>rw[O] at h; simp at h
  | some v=>
   cases U:evs E r with
   | none=>grind
   | some V=>rw[O,U] at h; simp at h; subst h; simp[J.eval O,D U]
def B3 (P:Program) (f:FuncId) (vs:List Value) (I:IH) (ψ:IH->Value->Prop):Prop:=Fun P f vs.toArray I [] λh v l=>l=[]∧ψ h v
theorem Ops.callF {g:FuncId} {args:List Operand} {vs:List Value} {D:Array TypeId} {mf mr:List HA} {φ:IH->Value->List HA->Prop} (hg:∀ as w,(callFunc g as).run P w=.ok (.enter g as) w)
  (ha:evs E args=some vs) (hf:Fun P g vs.toArray I mf φ) (hb:Nat.blt d n.sz=true) (W:fresh E d=true)
  (k:∀ v O U,I.le O->φ O v U->Ops P ops l n ((d,v) :: E) (Sym w0 M I0 O (U++mr)) Q) :
  Ops P ops (⟨some d,.call ⟨.value (.func g),args.toArray,D⟩,ty,pos,af,none⟩ :: l) n E (Sym w0 M I0 I (mf++mr)) Q:=by
 intro c w h hs;refine wpListIn_plain rfl λ_ hK=>?_
 have J:(execOp c.eval ⟨some d,.call ⟨.value (.func g),args.toArray,D⟩,ty,pos,af,none⟩).run P w=.ok (.enter g vs.toArray) w:=by
  have e:args.toArray.map c.eval=vs.toArray:=by simp[V5 h ha]
  simp only[execOp,resolve,e,Act.eval,Deferred.ofValue,Sem.run_bind,Sem.run_pure,Result.andThen_ok,invoke];simp[hg]
 refine kF J (by simp) ?_;simp only[Oper.uponIn];refine⟨λa2=>(by cases a2),nY (hf.use hs λv O U _ Z hφ V=>hK _ _ (k v O U Z hφ _ _ (h.put hb W v) V))⟩
theorem Ops.call {g:FuncId} {args:List Operand} {vs:List Value} {J:Array TypeId} (hg:∀ as w,(callFunc g as).run P w=.ok (.enter g as) w)
  (V:evs E args=some vs) (Z:B3 P g vs I ψ) (W:Nat.blt d n.sz=true) (D:fresh E d=true)
  (k:∀ v h,I.le h->ψ h v->Ops P ops l n ((d,v) :: E) (Sym w0 M I0 h m) Q) :
  Ops P ops (⟨some d,.call ⟨.value (.func g),args.toArray,J⟩,ty,pos,af,none⟩ :: l) n E (Sym w0 M I0 I m) Q:=
 Ops.callF (mf:=[]) (mr:=m) hg V Z W D λv h _ O hφ=>by obtain⟨rfl,U⟩:=hφ; exact k v h O U
abbrev I6 (P:Program) (fn:Func) (R:Ending->World->Prop):Exit->Act->World->Prop:=bodyPostM Fence.wide 0 P fn R
inductive ArgsE:Nat→List Value→DG→Prop
 | n {i:Nat}:ArgsE i [] []
 | c {i:Nat} {v:Value} {vs:List Value} {E:DG} (h:ArgsE (i+1) vs E):ArgsE i (v :: vs) ((i,v) :: E)
theorem ArgsE.ok {i:Nat} {vs:List Value} {E:DG} (h:ArgsE i vs E):∀ (D:List Value) (r:Array Value),D.length=i->EnvOk E { tmps:=(D++vs).toArray++r,defers:=[] }:=by
 induction h with
 | n=>exact λ_ _ _=>trivial
 | @c i v vs E _ O=>
  intro D r J;refine⟨?_,?_⟩
  . grind
  . have:=O (D++[v]) r (by simp[J]);grind
theorem Fun.enter {f:FuncId} {c:Code} {z:Nat} {vs:List Value} {l:List HA} {φ:IH->Value->List HA->Prop} (U:P.funcs[f]? = some fn) (O:fn.body=some c) (hn:fn.ntmps=z) (Z:Nat.ble vs.length z=true) (D:ArgsE 0 vs E)
   (k:∀ w M,Cod P c ⟨z,[],none⟩ E (Sym w M I I l) (I6 P fn (S7 w M I φ))):Fun P f vs.toArray I l φ:=by
 intro w h hi W J V;refine callsIn_wide.1 (callsIn_of_wp_marks U O trivial (k w _ _ w ⟨?_,rfl,?_⟩ (Fun.start hi W J V)))
 . simp_all
 . exact D.ok [] _ rfl
inductive ResR (P:Program) (E:DG) (m:List HA):List ResultVar→List Value→Prop
 | n:ResR P E m [] []
 | t {t:Nat} {v:Value} {rs:List ResultVar} {vs:List Value} (h:look E t=some v) (k:ResR P E m rs vs):ResR P E m (.tmp t :: rs) (v :: vs)
 | w {t b s:Nat} {T:TypeId} {cs:List Value} {m':List HA} {T':TypeId} {fz:Nat×Nat} {rs:List ResultVar} {vs:List Value} (hT:∀ w,(isAgg T).run P w=.ok true w) (hS:∀ w,(sizeOf T).run P w=.ok s w)
  (h:look E t=some (.pointer (some ⟨b,0,none⟩))) (hA:Del m (pto b (.cells cs.toArray T' fz)) m') (hl:cs.length=s) (k:ResR P E m rs vs):ResR P E m (.cell t T :: rs) (.agg cs.toArray :: vs)
 | s {t b:Nat} {T:TypeId} {v:Value} {m':List HA} {T':TypeId} {fz:Nat×Nat} {rs:List ResultVar} {vs:List Value} (hT:∀ w,(isAgg T).run P w=.ok false w) (h:look E t=some (.pointer (some ⟨b,0,none⟩)))
  (hA:Del m (pto b (.cells #[v] T' fz)) m') (k:ResR P E m rs vs):ResR P E m (.cell t T :: rs) (v :: vs)
def AhF (c:Act):ResultVar->Sem Value
 | .tmp t=>pure (c.tmps.getD t undef)
 | .cell a t=>do loadVar t (<-asAddr (c.tmps.getD a undef))
theorem ResR.run {vs:List Value} (h:ResR P E m rs vs) {c:Act} (V:Ok n E c) (W:Sym w0 M I0 I m w):(rs.mapM (AhF c)).run P w=.ok vs w:=by
 induction h with
 | n=>rfl
 | t h k D=>
  have e:=V.env.look h;rw[ApE];simp only[AhF,jZ,e,xA,Sem.run_bind,Sem.run_pure,Result.andThen_ok,D]
 | @w t b s T cs m' T' fz rs vs O Z h U J k D=>
  have e:=V.env.look h
  have J:(loadVar T ⟨b,0,none⟩).run P w=.ok (.agg cs.toArray) w:=by have:=KN (P:=P) (w:=w) (T:=T) (b:=b) (off:=0) (vs:=cs) O Z J (λ_ v hj=>(MB (W.del U).pto).trans (by simpa using hj));simpa[Instr.loadAt,Instr.sureAddr] using this
  rw[ApE];simp only[AhF,jZ,e,xA,Sem.run_bind,asAddr,Sem.run_pure,Result.andThen_ok,J,D]
 | @s t b T v m' T' fz rs vs O h U k D=>
  have e:=V.env.look h;have hc:w.cell? ⟨b,0,none⟩=some v:=(MB (W.del U).pto).trans (by simp)
  have J:(loadVar T ⟨b,0,none⟩).run P w=.ok v w:=by have:=R4 (P:=P) (w:=w) (T:=T) (b:=b) (off:=0) O hc;simpa[Instr.loadAt,Instr.sureAddr] using this
  rw[ApE];simp only[AhF,jZ,e,xA,Sem.run_bind,asAddr,Sem.run_pure,Result.andThen_ok,J,D]
def tup:List Value->Value
 | [v]=>v
 | vs=>.tuple vs.toArray
theorem ResR.resultsOf {vs:List Value} (h:ResR P E m rs vs) (V:fn.results=rs.toArray) {c:Act} (U:Ok n E c) (O:Sym w0 M I0 I m w):(results fn c.tmps).run P w=.ok (tup vs) w:=by
 have D:=h.run U O
 have e:∀ f:ResultVar->Sem Value,(∀ r,f r=AhF c r)->fn.results.mapM f=(do pure (<-rs.mapM (AhF c)).toArray:Sem (Array Value)):=λf J=>by rw[V,AvB,map_eq_pure_bind,show f=AhF c from funext J]
 unfold Go.results;rw[e _ (λr=>by cases r <;> rfl)];simp only[Sem.run_bind,D,Result.andThen_ok,Sem.run_pure];congr 1
 match vs with
 | []=>rfl
 | [v]=>rfl
 | u :: v :: r=>simp[tup]
def AvD (A B:HA):HA where
 holds I h:=∃ h1 h2:IH,h1.disj h2∧h1.le h∧h2.le h∧A.holds I h1∧B.holds I h2
 mono hI hh:=λ⟨h1,h2,a,b,c,d,e⟩=>⟨h1,h2,a,b.trans hh,c.trans hh,A.mono hI (IH.le.refl _) d,B.mono hI (IH.le.refl _) e⟩
def AxJ:HA:=⟨λ_ _=>True,λ_ _ _=>trivial⟩
theorem Sym.emp:Sym w0 M I0 I (AxJ :: m) w↔Sym w0 M I0 I m w:=by
 constructor
 . exact λh=>h.drop
 . rintro⟨V,hi,O,k,U,hk,D,J⟩;exact⟨V,hi,O,k,⟨λ_=>none,k,λ_=>.inl rfl,(λ_ _ x=>nomatch x),IH.le.refl _,trivial,U⟩,hk,D,J⟩
theorem Sym.star {A B:HA}:Sym w0 M I0 I (AvD A B :: m) w↔Sym w0 M I0 I (A :: B :: m) w:=by
 constructor
 . rintro⟨U,hi,O,k,⟨h1,h2,hd',hl1,hl2,⟨W,V,a,b,c,d,e⟩,hs'⟩,hk,hdj,hm⟩;refine⟨U,hi,O,k,⟨W,V.union h2,?_,b.trans hl1,IH.union_le (c.trans hl1) hl2,d,V,h2,hd'.mono c (IH.le.refl _),IH.le_union_left _ _,IH.le_union_right (hd'.mono c (IH.le.refl _)),e,hs'⟩,hk,hdj,hm⟩;intro x;rcases a x with h | h
   . exact .inl h
   . rcases(hd'.mono b (IH.le.refl h2)) x with D | D
     . exact .inl D
     . right; simp[IH.union,h,D]
 . rintro⟨U,hi,O,k,⟨h1,h2,hd',hl1,hl2,ha,h3,h4,hd2,hl3,hl4,hb2,hs'⟩,hk,hdj,hm⟩;have J:=hd'.mono (IH.le.refl _) hl3;refine⟨U,hi,O,k,⟨h1.union h3,h4,?_,IH.union_le hl1 (hl3.trans hl2),hl4.trans hl2,⟨h1,h3,J,IH.le_union_left _ _,IH.le_union_right J,ha,hb2⟩,hs'⟩,hk,hdj,hm⟩;intro x;rcases hd2 x with h | h
   . rcases(hd'.mono (IH.le.refl _) hl4) x with D | D
     . left; simp[IH.union,h,D]
     . exact .inr D
   . exact .inr h
def N0:List Nat->HA
 | []=>AxJ
 | D :: ds=>AvD (pto D (.deferred (some []))) (N0 ds)
theorem Sym.marks0 (h:Sym w0 M I0 I m w):Sym w0 M I0 I (N0 [] :: m) w:=Sym.emp.2 h
theorem Sym.marksCons {D:Nat} :Sym w0 M I0 I (N0 (D :: ds) :: m) w↔Sym w0 M I0 I (Fw.pto D (.deferred (some [])) :: N0 ds :: m) w:=Sym.star
theorem Ak5 {vs:List Value} {tmps:Array Value} {R:Ending->World->Prop} (Z:fn.results=rs.toArray) (h:ResR P E m rs vs):∀ {ds:List Nat} {w:World} {c:Act},
  EnvOk E c->c.tmps=tmps->Sym w0 M I0 I (N0 ds :: m) w->(∀ w',Sym w0 M I0 I m w'->R (.returned (tup vs)) w')->LeavesInM Fence.wide 0 P fn tmps R (ds.map mkM) .returning w
 | [],w,c,ho,ht,hs,hR=>by
  have J:=hs.drop
  have O:=h.resultsOf (n:=⟨c.tmps.size,[],none⟩) Z (c:={ tmps:=c.tmps,defers:=[] }) ⟨rfl,rfl,by
   clear h; induction E with
   | nil=>trivial
   | cons p E ih=>exact⟨ho.1,ih ho.2⟩⟩ J
  subst ht;exact⟨_,O,hR _ J⟩
 | D :: ds,w,c,ho,ht,hs,hR=>by have J:=Sym.marksCons.1 hs;have W:=J.pto;refine⟨by simp,.inl ⟨D,w.putObj D (.deferred none),rfl,run_takeDeferred W,?_⟩⟩;have V:D<w.heap.size:=(Array.getElem?_eq_some_iff.1 W).1;have U:=J.upd (o':=.deferred none) (w':=w.putObj D (.deferred none)) rfl rfl rfl rfl (by simp) (λ_ hq=>World.putObj_heap_other hq) (World.putObj_heap_same V);exact Ak5 Z h ho ht U.drop hR
theorem ApM {z:Nat} {D:List HA} (U:Del D (N0 ds) m) {vs:List Value} {R:Ending->World->Prop} {c:Act} (J:Ok ⟨z,ds,none⟩ E c) (h:ResR P E m rs vs) (W:fn.results=rs.toArray) (V:Sym w0 M I0 I D w)
  (O:∀ w',Sym w0 M I0 I m w'->R (.returned (tup vs)) w'):LeavesInM Fence.wide 0 P fn c.tmps R c.defers .returning w:=by
 rw[J.defers];exact Ak5 W h J.env rfl (V.del U) O
theorem ApN {z:Nat} {vs:List Value} {R:Ending->World->Prop} {c:Act} (O:Ok ⟨z,[],none⟩ E c) (h:ResR P E m rs vs) (U:fn.results=rs.toArray) (J:Sym w0 M I0 I m w)
 (D:∀ w',Sym w0 M I0 I m w'->R (.returned (tup vs)) w'):LeavesInM Fence.wide 0 P fn c.tmps R c.defers .returning w:=ApM .z O h U J.marks0 D
theorem Sym.dropAll (h:Sym w0 M I0 I m w):Sym w0 M I0 I [] w:=by have⟨U,hi,O,k,_,hk,D,J⟩:=h;exact⟨U,hi,O,k,trivial,hk,D,J⟩
theorem B5 {z:Nat} {vs:List Value} (W:fn.results=rs.toArray) (h:ResR P E m rs vs) (D:I0.le I) (U:ψ I (tup vs)) :
 ∀ c w,Ok ⟨z,[],none⟩ E c->Sym w0 M I0 I m w->I6 P fn (S7 w0 M I0 λO v l=>l=[]∧ψ O v) .ret c w:=λ_ _ V J=>ApN V h W J λ_ J=>⟨_,I,[],rfl,D,⟨rfl,U⟩,J.dropAll⟩
theorem zD {z:Nat} {O:List HA} (U:Del O (N0 ds) m) {vs:List Value} (hr:fn.results=rs.toArray) (h:ResR P E m rs vs) (D:I0.le I) (W:ψ I (tup vs)) :
 ∀ c w,Ok ⟨z,ds,none⟩ E c->Sym w0 M I0 I O w->I6 P fn (S7 w0 M I0 λV v l=>l=[]∧ψ V v) .ret c w:=λ_ _ Z J=>ApM U Z h hr J λ_ J=>⟨_,I,[],rfl,D,⟨rfl,W⟩,J.dropAll⟩
def AU (xs:List α) (i:Int) (K:α->Prop):Prop:=0<=i∧∃ x,xs[i.toNat]? = some x∧K x
def DA (B:Nat) (xs ys:List α) (K:List α->Prop):Prop:=(xs.length+ys.length)*B<=140737488355328∧K (xs++ys)
end
section
variable {w0 w:World} {M:Nat→Prop} {I0 I:IH} {m m':List HA}
variable {P:Program} {n:FrK} {E:DG} {S:World→Prop} {Q:Exit→Act→World→Prop} {ops:Array Oper} {l:List Oper}
variable {d ty:Nat} {pos:String} {af:Array Edge} {T e:TypeId} {x y:Operand}
variable {α:Type} {El:EC α} {xs ys:List α} {a:Option Addr} {cap:Nat}
/-! ### Pure parts -/
variable {φ:IH→Value→List HA→Prop} {parts:List (Nat×Operand)} {len:Nat} {rs:List ResultVar} {fn:Func}
def slP (xs:List α) (lo hi:Int) (K:List α->Prop):Prop:=0<=lo∧lo<=hi∧hi<=(xs.length:Int)∧K ((xs.take hi.toNat).drop lo.toNat)
def nzP (b:Int) (K:Prop):Prop:=b≠0∧K
def nnP (b:Int) (K:Prop):Prop:=0<=b∧K
def mkP (B:Nat) (c:Int) (z:α) (K:List α->Prop):Prop:=0<=c∧c*B<=140737488355328∧K (List.replicate c.toNat z)
def DE {σ:Type} (m:(σ->Prop)->Prop) (k:σ->Prop):Prop:=m k
theorem BG {i:Int} {v:α} (h:xs[i.toNat]? = some v) (D:0<=i):i<(xs.length:Int):=by grind
theorem CS {i:Nat} {v:α} (h:xs[i]? = some v):xs≠[]:=λe=>by subst e; simp at h
theorem split {G:Prop} (b:Bool) (D:b=true->G) (h:b=false->G):G:=by cases b <;> simp_all
theorem Cod.joinQ {σ:Type} {c:Code} {D:(σ->Prop)->Prop} {k:σ->Prop} (O:DE D k) (J:σ->Act->World->Prop) (V:∀ k,D k->Cod P c n E S (Exit.then (λa w=>∃ s,k s∧J s a w) Q))
  (U:∀ s,k s->∀ a w,J s a w->Q .normal a w):Cod P c n E S Q:=
 λa w Z W=>Code.wpIn_mono (λe a w q=>by cases e <;> first | exact q | exact(let ⟨s,hk,h⟩:=q; U s hk a w h)) (V k O a w Z W)
inductive Pick:List HA→List HA→Prop
 | n {l:List HA}:Pick l []
 | c {l m r:List HA} {A:HA} (h:Del l A m) (k:Pick m r):Pick l (A :: r)
theorem AmJ {l r:List HA} (hp:Pick l r):∀ {h:IH},NH l I h->NH r I h:=by
 induction hp with
 | n=>intros; trivial
 | c hd _ ih=>
  intro h hs;have⟨V,W,D,O,U,Z,J⟩:=kE hd hs;exact⟨V,W,D,O,U,Z,ih J⟩
theorem Sym.pick (h:Sym w0 M I0 I m w) (hp:Pick m m'):Sym w0 M I0 I m' w:=by have⟨V,hi,O,k,U,hk,D,J⟩:=h;exact⟨V,hi,O,k,AmJ hp U,hk,D,J⟩
theorem Cod.ownF {c:Code} (D:Del m (OwnSl El T a cap xs) m') (k:(xs≠[]->∃ b,a=some ⟨b,0,none⟩)->Cod P c n E (Sym w0 M I0 I m) Q):Cod P c n E (Sym w0 M I0 I m) Q:=by
 intro c w U h;refine k (λ_=>?_) c w U h;have⟨_,J,_⟩:=(h.del D).get;rcases J with⟨_,V,_⟩ | ⟨b,_,O,_⟩
 all_goals grind
theorem Ops.ownNe (O:Del m (OwnSl El T a cap xs) m') (h:xs≠[]) (k:∀ b,a=some ⟨b,0,none⟩->Ops P ops l n E (Sym w0 M I0 I m) Q):Ops P ops l n E (Sym w0 M I0 I m) Q:=by
 intro c w W D;have⟨_,V,_⟩:=(D.del O).get;rcases V with⟨_,U,_⟩ | ⟨b,_,J,_⟩
 . exact absurd U h
 . exact k b J c w W D
inductive nZ (E:DG) (s:Nat):Nat→List (Nat×Operand)→List Value→Prop
 | n {i:Nat}:nZ E s i [] []
 | c {i:Nat} {x:Operand} {v:Value} {vs cs:List Value} {r:List (Nat×Operand)} (hx:ev E x=some v) (hv:cellsOf v=vs) (hl:vs.length=s) (k:nZ E s (i+1) r cs):nZ E s i ((i,x) :: r) (vs++cs)
theorem AhG {s:Nat} {ev':Operand->Value} (O:∀ x v,ev E x=some v->ev' x=v) {i:Nat} {cs:List Value} (h:nZ E s i parts cs) :
  ∀ z:Array Value,z.size=i*s+parts.length*s->Instr.fill (λi=>some (i*s,s)) z (parts.map λp=>(p.1,ev' p.2))=some (z.toList.take (i*s)++cs).toArray:=by
 induction h with
 | n=>intro z D; simp at D; simp only[AjX,Instr.fill,kD]; rw[AoY (by simp; omega)]
 | @c i x v vs cs r J U hl k V=>
  intro z D;simp only[nR,WB,xB] at D;have Z:(ev' x).cells=vs.toArray:=by rw[O x v J,TE,U]
  simp only[NM,Instr.fill,Z];rw[if_neg (by simp; omega)]
  have W:vs.toArray.zipIdx.foldl (λcs (p:Value×Nat)=>cs.setIfInBounds (i*s+p.2) p.1) z=(z.toList.take (i*s)++vs++z.toList.drop (i*s+vs.length)).toArray:=by rw[<-AjM,Ap1,kG vs (i*s) 0 z (by omega)];simp
  rw[W,V _ (by simp[WB]; omega)];congr 2;have e3:(i+1)*s=(z.toList.take (i*s)++vs).length:=by grind
  grind
theorem Ops.buildSlice {s:Nat} {z:Value} {cs:List Value} (k:Nat) (Z:P.underlying T=some (.slice e)) (hs:∀ w,(sizeOf e).run P w=.ok s w) (W:∀ w,(zeroValue e).run P w=.ok z w)
  (hk:k=parts.length) (J:Nat.ble (k*s) 16777216=true) (hp:nZ E s 0 parts cs) (hb:Nat.blt d n.sz=true) (hf:fresh E d=true)
  (V:∀ b,Ops P ops l n ((d,.slice (some ⟨b,0,none⟩) k k) :: E) (Sym w0 M I0 I (pto b (.cells cs.toArray e) :: m)) Q) :
  Ops P ops (⟨some d,.buildSlice T k parts.toArray,ty,pos,af,none⟩ :: l) n E (Sym w0 M I0 I m) Q:=
 Ops.valx (λv w'=>∃ b,v=.slice (some ⟨b,0,none⟩) k k∧Sym w0 M I0 I (pto b (.cells cs.toArray e) :: m) w') rfl rfl
  (λc w O h=>⟨.slice (some ⟨w.heap.size,0,none⟩) k k,w.alloc (.cells cs.toArray e),by
   have hl:¬k*s > 16777216:=by have:=Nat.le_of_ble_eq_true J; omega
   have D:=λU:Array Value=>AhG (ev':=c.eval) (λx v hx=>O.eval hx) hp ((Array.range (k*s)).map (U[· % U.size]!)) (by simp[hk]);have e1:(Array.map (λ(x:Nat×Operand)=>(x.1,c.eval x.2)) parts.toArray).toList=parts.map λp=>(p.1,c.eval p.2):=by simp
   have e2:(Array.map (λx=>match x with | (i,x)=>(i,c.eval x)) parts.toArray).toList=parts.map λp=>(p.1,c.eval p.2):=e1;simp only[execOp,Instr.buildSlice,Sem.run_bind,run_underlying Z,Result.andThen_ok,hs,hl,if_false,e2];simp only[D];by_cases hks:k*s=0 <;> simp[hks,newRow,W],_,rfl,h.alloc _⟩) hb hf
  (λv c w O ⟨b,hv,h⟩=>by subst hv; exact V b c w O h)
theorem Ops.pubB {b k:Nat} {cs:List Value} (Z:Del m (Fw.pto b (.cells cs.toArray e (0,0))) m') (U:RepCs El I cs ys) (hk:k=ys.length) (V:∀ D,I.le D->RepSl El D (some ⟨b,0,none⟩) k ys->Ops P ops l n E (Sym w0 M I0 D m') Q) :
  Ops P ops l n E (Sym w0 M I0 I m) Q:=by
 intro c w ho hs;have⟨D,_,h,ha,hq,J⟩:=(hs.del Z).publish;refine V D h ⟨by omega,λi x hx=>?_⟩ c w ho J;have⟨O,g1,W⟩:=U.2.1 i x hx;exact⟨b,0,O,rfl,⟨_,_,_,hq _ _ ha,λj v hj=>by rw[nU]; simpa using W j v hj⟩,El.mono h g1⟩
theorem Ops.ownB {b k:Nat} {cs:List Value} (U:Del m (Fw.pto b (.cells cs.toArray e (0,0))) m') (D:RepCs El I cs ys) (hk:k=ys.length) (J:Ops P ops l n E (Sym w0 M I0 I (OwnSl El e (some ⟨b,0,none⟩) k ys :: m')) Q) :
  Ops P ops l n E (Sym w0 M I0 I m) Q:=
 Ops.pre (λ_ hs=>(hs.del U).weaken (B:=OwnSl El e (some ⟨b,0,none⟩) k ys) λ_ hq=>.inr ⟨b,_,rfl,hq,by omega,by simp[D.1,hk],λi x V=>by have⟨h,Z,O⟩:=D.2.1 i x V;exact⟨h,Z,λj v W=>by simpa using O j v W⟩⟩) J
theorem Ops.sliceV {lo hi mx:Option Operand} {vl Z O:Option Value} {L H k s:Nat} (hT:P.underlying T=some (.slice e)) (hs:∀ w,(sizeOf e).run P w=.ok s w) (hx:ev E x=some (.slice a k cap)) (hk:k=xs.length)
  (hc:xs.length<=cap) (hl:oev E lo=some vl) (hh:oev E hi=some Z) (hm:oev E mx=some O) (a2:vl=none∧L=0∨∃ q i,vl=some (.int q i)∧0<=i∧i.toNat=L)
  (a3:Z=none∧H=k∧O=none∨∃ q i,Z=some (.int q i)∧0<=i∧i.toNat=H) (a5:O=none∨O=Z)
  (h1:L<=H) (h2:H<=xs.length) {cm:Nat} (h:cm=match O with | none=>cap | some _=>H) (hb:Nat.blt d n.sz=true) (hf:fresh E d=true)
  (k':Ops P ops l n ((d,.slice (if cm=L then a else a.map (·.add (L*s))) ((xs.take H).drop L).length (cm - L)) :: E) S Q) :
  Ops P ops (⟨some d,.slice T x lo hi mx,ty,pos,af,none⟩ :: l) n E S Q:=by
 subst hk;have a6:((xs.take H).drop L).length=H - L:=by simp; omega
 rw[a6] at k';refine Ops.val rfl rfl (λ_ w ho _=>?_) hb hf k'
 have a4:(Instr.sliceBounds true xs.length cap vl Z O).run P w=.ok (L,H,cm) w:=by
  simp only[Instr.sliceBounds];rcases a5 with rfl | rfl
  . simp only at h; subst h;rcases a3 with⟨rfl,rfl,_⟩ | ⟨q,i,rfl,W,D⟩ <;> rcases a2 with⟨rfl,rfl⟩ | ⟨q',V,rfl,J,U⟩
    . simp
    . have:V<=(xs.length:Int):=by omega
      simp[Instr.sliceBound,asIntOf,J,this,U]
    . have:i<=(cm:Int):=by omega
      simp[Instr.sliceBound,asIntOf,W,this,D]
    . have g1:i<=(cm:Int):=by omega
      have g2:V<=(H:Int):=by omega
      simp[Instr.sliceBound,asIntOf,W,g1,J,g2,D,U]
  . rcases a3 with⟨rfl,rfl,_⟩ | ⟨q,i,rfl,W,D⟩
    . simp only at h; subst h;rcases a2 with⟨rfl,rfl⟩ | ⟨q',V,rfl,J,U⟩
      . simp
      . have:V<=(xs.length:Int):=by omega
        simp[Instr.sliceBound,asIntOf,J,this,U]
    . simp only at h; subst h;have g0:i<=(cap:Int):=by omega
      rcases a2 with⟨rfl,rfl⟩ | ⟨q',V,rfl,J,U⟩
      . have:i<=(cm:Int):=by omega
        simp[Instr.sliceBound,asIntOf,W,g0,this,D]
      . have g1:i<=(cm:Int):=by omega
        have g2:V<=(cm:Int):=by omega
        simp[Instr.sliceBound,asIntOf,W,g0,g1,J,g2,D,U]
 simp only[execOp,ho.eval hx,NO ho hl,NO ho hh,NO ho hm,Instr.sliceAt,Sem.run_bind,run_underlying hT,Result.andThen_ok,Instr.slice,a4,hs,Sem.run_pure]
theorem RepSl.sliceM (h:RepSl El I a cap xs) {L H cm:Nat} (D:L<=H) (O:H<=xs.length) (U:cm=cap∨cm=H) :
  RepSl El I (if cm=L then a else a.map (·.add (L*El.sz))) (cm - L) ((xs.take H).drop L):=by
 have W:=h.1;refine⟨by simp; omega,λi x J=>?_⟩;have V:=(h.slice D O).2 i x J;grind
theorem Ops.ixa0 {k s b:Nat} {q:IntKind} {i:Int} (J:P.underlying T=some (.slice e)) (W:∀ w,(sizeOf e).run P w=.ok s w) (V:ev E x=some (.slice (some ⟨b,0,none⟩) k cap))
 (O:ev E y=some (.int q i)) (U:0<=i) (hk:i<k) (Z:Nat.blt d n.sz=true) (D:fresh E d=true) (h:Ops P ops l n ((d,.pointer (some ⟨b,i.toNat*s,none⟩)) :: E) S Q) :
 Ops P ops (⟨some d,.indexAddr T x y,ty,pos,af,none⟩ :: l) n E S Q:=Ops.ixa (off:=0) J W V rfl O U hk Z D (by rw[nU]; exact h)
theorem Ops.ixArr {s b off o:Nat} {q:IntKind} {i:Nat} (J:P.underlying T=some (.array len e)) (hs:∀ w,(sizeOf e).run P w=.ok s w) (U:ev E x=some (.pointer (some ⟨b,off,none⟩)))
  (O:ev E y=some (.int q (i:Int))) (hk:i<len) (W:off+i*s=o) (Z:Nat.blt d n.sz=true) (hf:fresh E d=true) (D:Ops P ops l n ((d,.pointer (some ⟨b,o,none⟩)) :: E) S Q) :
  Ops P ops (⟨some d,.indexAddr T x y,ty,pos,af,none⟩ :: l) n E S Q:=
 Ops.val rfl rfl (λ_ w h _=>by
  have e1:(⟨b,off,none⟩:Addr).add (i*s)=⟨b,o,none⟩:=by rw[<-W]; unfold Addr.add; split <;> simp_all
  have V:(0:Int)<=(i:Int):=by omega
  simp[execOp,Instr.indexAt,Instr.sureAddr,h.eval U,h.eval O,asIntOf,run_underlying J,V,hk,hs,e1]) Z hf D
theorem Ops.index1 {s:Nat} {q:IntKind} {i:Nat} {cs:List Value} {v:Value} (J:P.underlying T=some (.array len e)) (hs:∀ w,(sizeOf e).run P w=.ok s w) (O:∀ w,(isAgg e).run P w=.ok false w) (V:ev E x=some (.agg cs.toArray))
  (U:ev E y=some (.int q (i:Int))) (hk:i<len) (hc:cs[i*s]? = some v) (Z:Nat.blt d n.sz=true) (hf:fresh E d=true) (D:Ops P ops l n ((d,v) :: E) S Q) :
  Ops P ops (⟨some d,.index T x y,ty,pos,af,none⟩ :: l) n E S Q:=
 Ops.val rfl rfl (λ_ w h _=>by
  have W:(0:Int)<=(i:Int):=by omega
  simp[execOp,Instr.index,h.eval V,h.eval U,asIntOf,run_underlying J,W,hk,hs,part,O,hc]) Z hf D
theorem Ops.make {z:Value} {zv:α} {i:TypeInfo} {q q':IntKind} {c:Int} (B:Nat) (hT:P.underlying T=some (.slice e)) (hi:P.info? e=some i) (a6:i.size=El.sz) (hB:i.bytes=B) (hz:i.zero=some z) (Z:El.rep I (cellsOf z) zv)
   (hx:ev E x=some (.int q c)) (hy:ev E y=some (.int q' c)) (h0:0<=c) (h1:c*B<=140737488355328) (b0:Nat.blt 0 B=true) (hb:Nat.blt d n.sz=true) (hf:fresh E d=true)
   (k:∀ b,Ops P ops l n ((d,.slice (some ⟨b,0,none⟩) (List.replicate c.toNat zv).length c.toNat) :: E) (Sym w0 M I0 I (OwnSl El e (some ⟨b,0,none⟩) c.toNat (List.replicate c.toNat zv) :: m)) Q) :
   Ops P ops (⟨some d,.makeSlice T x y,ty,pos,af,none⟩ :: l) n E (Sym w0 M I0 I m) Q:=by
 have b1:0<B:=by simp_all
 have hc:c<=140737488355328:=by have:c*1<=c*(B:Int):=Av7 (by omega) h0;omega
 have hw:IntKind.i64.wrap c=c:=by
   have e1:IntKind.i64.wrap c=(let m:=c % 18446744073709551616; if m>=9223372036854775808 then m - 18446744073709551616 else m):=by simp[IntKind.wrap,IntKind.bits,IntKind.signed]
   grind
 have D:z.cells.size=El.sz:=by rw[TE]; simpa using El.len Z
 refine Ops.valx (λv w'=>∃ b,v=.slice (some ⟨b,0,none⟩) (List.replicate c.toNat zv).length c.toNat∧Sym w0 M I0 I (OwnSl El e (some ⟨b,0,none⟩) c.toNat (List.replicate c.toNat zv) :: m) w') rfl rfl
   (λU w W h=>⟨.slice (some ⟨w.heap.size,0,none⟩) (List.replicate c.toNat zv).length c.toNat,w.alloc (.cells ((Array.range (c.toNat*El.sz)).map ((if c.toNat*El.sz=0 then #[] else z.cells)[· % (if c.toNat*El.sz=0 then #[] else z.cells).size]!)) e),?_,_,rfl,?_⟩) hb hf
   (λv U w W ⟨b,hv,h⟩=>by subst hv; exact k b U w W h)
 . have a5:∀ w,(sizeOf e).run P w=.ok El.sz w:=λw=>by simp[sizeOf,typeInfo,hi,a6]
   have V:∀ w,(typeInfo e).run P w=.ok i w:=λw=>by simp[typeInfo,hi]
   have a9:∀ w,(zeroValue e).run P w=.ok z w:=λw=>by simp[zeroValue,V,hz]
   have h2:(B:Int)*c<=140737488355328:=by grind
   have g2:¬((c<0∨281474976710656<(B:Int)*c)∨c<0):=by omega
   simp only[execOp,Instr.makeSlice,W.eval hx,W.eval hy,Sem.run_bind,run_underlying hT,Result.andThen_ok,asInt,asIntOf,Sem.run_pure,V,hB,hw];by_cases hcz:c.toNat*El.sz=0 <;> simp[newRow,g2,a5,a9,hcz]
 . refine(h.alloc _).weaken λq hq=>.inr ⟨_,_,rfl,hq,by simp,by simp,λi' x' a7=>?_⟩;have J:=(List.getElem?_eq_some_iff.1 a7).1;have a8:x'=zv:=by grind
   subst a8;refine⟨_,Z,λj v _=>?_⟩;have O:j<El.sz:=by rw[<-El.len Z]; grind
   rw[At0] at J;have a3:(i'+1)*El.sz<=c.toNat*El.sz:=W9 _ J;rw[WB,xB] at a3;have a4:¬c.toNat*El.sz=0:=by omega
   simp only[a4,if_false,Array.getElem?_map,Array.getElem?_range];rw[if_pos (by omega)];have a2:(i'*El.sz+j) % El.sz=j:=by rw[yV,Nat.add_mul_mod_self_right]; exact Ap6 O
   simp only[Ah5,D,a2,AdR];have c0:j<z.cells.size:=by rw[D]; exact O
   have e4:z.cells=(cellsOf z).toArray:=TE z;grind
theorem Ops.sliceW {lo hi mx:Option Operand} {V D h:Option Value} {L H k s:Nat} {W:Option Addr} {Z:Nat} (hT:P.underlying T=some (.slice e)) (hs:∀ w,(sizeOf e).run P w=.ok s w) (hx:ev E x=some (.slice a k cap)) (hk:k=xs.length)
  (hc:xs.length<=cap) (hl:oev E lo=some V) (hh:oev E hi=some D) (hm:oev E mx=some h) (U:V=none∧L=0∨∃ q i,V=some (.int q i)∧0<=i∧i.toNat=L)
  (a3:D=none∧H=k∧h=none∨∃ q i,D=some (.int q i)∧0<=i∧i.toNat=H) (O:h=none∨h=D)
  (h1:L<=H) (h2:H<=xs.length) {cm:Nat} (a2:cm=match h with | none=>cap | some _=>H) (J:(if cm=L then a else a.map (·.add (L*s)))=W) (hc':cm - L=Z) (hb:Nat.blt d n.sz=true) (hf:fresh E d=true)
  (k':Ops P ops l n ((d,.slice W ((xs.take H).drop L).length Z) :: E) S Q) :
  Ops P ops (⟨some d,.slice T x lo hi mx,ty,pos,af,none⟩ :: l) n E S Q:=
 Ops.sliceV hT hs hx hk hc hl hh hm U a3 O h1 h2 a2 hb hf (by rw[J,hc']; exact k')
theorem RepSl.sliceW (h:RepSl El I a cap xs) (L H cm:Nat) (U:L<=H) (V:H<=xs.length) (D:cm=cap∨cm=H) :
 ∃ J O,(if cm=L then a else a.map (·.add (L*El.sz)))=J∧cm - L=O∧RepSl El I J O ((xs.take H).drop L):=⟨_,_,rfl,rfl,h.sliceM U V D⟩
theorem DZ {z:Nat} {vs:List Value} (V:fn.results=rs.toArray) (h:ResR P E m rs vs) (D:I0.le I) (hp:Pick m m') (O:φ I (tup vs) m') :
 ∀ c w,Ok ⟨z,[],none⟩ E c->Sym w0 M I0 I m w->I6 P fn (S7 w0 M I0 φ) .ret c w:=λ_ _ U J=>ApN U h V J λ_ J=>⟨_,I,m',rfl,D,O,J.pick hp⟩
theorem AvE {z:Nat} {O:List Nat} {U:List HA} (V:Del U (N0 O) m) {vs:List Value} (hr:fn.results=rs.toArray) (h:ResR P E m rs vs) (D:I0.le I) (hp:Pick m m') (W:φ I (tup vs) m') :
 ∀ c w,Ok ⟨z,O,none⟩ E c->Sym w0 M I0 I U w->I6 P fn (S7 w0 M I0 φ) .ret c w:=λ_ _ Z J=>ApM V Z h hr J λ_ J=>⟨_,I,m',rfl,D,W,J.pick hp⟩
def Ab1 (P:Program) (f:FuncId) (vs:List Value) (I:IH) (φ:IH->Value->List HA->Prop):Prop:=Fun P f vs.toArray I [] φ
theorem Ops.callO {g:FuncId} {args:List Operand} {vs:List Value} {J:Array TypeId} (V:∀ as w,(callFunc g as).run P w=.ok (.enter g as) w)
  (W:evs E args=some vs) (U:Ab1 P g vs I φ) (Z:Nat.blt d n.sz=true) (D:fresh E d=true)
  (k:∀ v h O,I.le h->φ h v O->Ops P ops l n ((d,v) :: E) (Sym w0 M I0 h (O++m)) Q) :
  Ops P ops (⟨some d,.call ⟨.value (.func g),args.toArray,J⟩,ty,pos,af,none⟩ :: l) n E (Sym w0 M I0 I m) Q:=
 Ops.callF (mf:=[]) (mr:=m) V W U Z D k
theorem JR {z:Nat} {vs:List Value} (V:fn.results=rs.toArray) (h:ResR P E m rs vs) (D:I0.le I) (hp:Pick m m') (O:φ I (tup vs) m') :
 ∀ c w,Ok ⟨z,[],none⟩ E c->Sym w0 M I0 I m w->I6 P fn (S7 w0 M I0 φ) .normal c w:=λ_ _ U J=>ApN U h V J λ_ J=>⟨_,I,m',rfl,D,O,J.pick hp⟩
theorem Ops.reat {A B:HA} (J:At m A m' B) (h:A=B) (k:Ops P ops l n E (Sym w0 M I0 I m') Q):Ops P ops l n E (Sym w0 M I0 I m) Q:=
 Ops.pre (λ_ D=>D.reAt J λ_ D=>h▸D) k
inductive oA (E:DG) (s:Nat):List Value→List (Nat×Operand)→List Value→Prop
 | n {z:List Value}:oA E s z [] z
 | c {z z' cs vs:List Value} {i:Nat} {x:Operand} {r:List (Nat×Operand)} {v:Value} (hx:ev E x=some v) (hv:cellsOf v=vs) (hl:vs.length=s) (hp:PutC z (i*s) vs z') (k:oA E s z' r cs):oA E s z ((i,x) :: r) cs
theorem ApO {s:Nat} {ev':Operand->Value}:∀ {z:List Value} {r:List (Nat×Operand)} {cs:List Value},oA E s z r cs->(∀ x v,ev E x=some v->ev' x=v) ->
  Instr.fill (λi=>some (i*s,s)) z.toArray (r.map λp=>(p.1,ev' p.2))=some cs.toArray:=by
 intro z r cs h
 induction h with
 | n=>intros; rfl
 | @c z W cs vs i x r v O U hl hp k V=>
  intro J;have⟨D,_⟩:=hp.eq;have Z:(ev' x).cells=vs.toArray:=by rw[J x v O,TE,U]
  simp only[NM,Instr.fill,Z];rw[if_neg (by simp; omega)]
  have e2:vs.toArray.zipIdx.foldl (λcs (p:Value×Nat)=>cs.setIfInBounds (i*s+p.2) p.1) z.toArray=W.toArray:=by rw[<-AjM,Ap1];rw[kG vs (i*s) 0 z.toArray (by simp; omega)];simp[D]
  rw[e2];exact V J
theorem Ops.buildArr {s:Nat} {z:List Value} {cs:List Value} (D:∀ w,(zeroValue T).run P w=.ok (.agg z.toArray) w) (J:P.underlying T=some (.array len e))
  (Z:∀ w,(sizeOf e).run P w=.ok s w) (hB:oA E s z parts cs) (V:Nat.blt d n.sz=true) (W:fresh E d=true) (k:Ops P ops l n ((d,.agg cs.toArray) :: E) S Q) :
  Ops P ops (⟨some d,.build T parts.toArray,ty,pos,af,none⟩ :: l) n E S Q:=
 Ops.val rfl rfl (λa w U _=>by
  have h:=ApO (ev':=a.eval) hB (λx _ O=>U.eval O);simp only[execOp,Instr.build,Sem.run_bind,D,Result.andThen_ok,run_underlying J,Value.cells,Z];have e:(Array.map (λ(x:Nat×Operand)=>(x.1,a.eval x.2)) parts.toArray).toList=parts.map λp=>(p.1,a.eval p.2):=by simp
  rw[show(Array.map (λx=>match x with | (i,x)=>(i,a.eval x)) parts.toArray).toList=parts.map λp=>(p.1,a.eval p.2) from e,h];simp) V W k
end
section
variable {w0 w:World} {M:Nat→Prop} {I0 I:IH} {m m':List HA}
variable {P:Program} {n:FrK} {E:DG} {S:World→Prop} {Q:Exit→Act→World→Prop} {ops:Array Oper} {l:List Oper}
variable {d ty:Nat} {pos:String} {af:Array Edge} {T e:TypeId} {x y:Operand}
variable {name:String} {us:List Value}
inductive Outs:List HA→List HA→List HA→Prop
 | n {m:List HA}:Outs m [] m
 | c {m m' r mr:List HA} {A:HA} (h:Del m A m') (k:Outs m' r mr):Outs m (A :: r) mr
theorem Outs.perm {mf mr:List HA} (h:Outs m mf mr):m.Perm (mf++mr):=by
 induction h with
 | n=>exact .refl _
 | c h _ D=>exact h.perm.trans (D.cons _)
def Enters (P:Program) (n:FrK) (E:DG) (S:World->Prop) (x:Callee) (args:List Operand) (g:FuncId) (vs:List Value):Prop:=
 ∀ (h:Option Nat) (D:Array TypeId) (ty:TypeId) (pos:String) (af:Array Edge) (c:Act) (w:World),Ok n E c->S w->(execOp c.eval ⟨h,.call ⟨x,args.toArray,D⟩,ty,pos,af,none⟩).run P w=.ok (.enter g vs.toArray) w
theorem Enters.f {g:FuncId} {args:List Operand} {vs:List Value} (D:∀ as w,(callFunc g as).run P w=.ok (.enter g as) w) (O:evs E args=some vs):Enters P n E S (.value (.func g)) args g vs:=by
 intro h J ty pos af c w U _;have e:args.toArray.map c.eval=vs.toArray:=by simp[V5 U O]
 simp only[execOp,resolve,e,Act.eval,Deferred.ofValue,Sem.run_bind,Sem.run_pure,Result.andThen_ok,invoke];simp[D]
theorem Enters.c {g:FuncId} {args:List Operand} {first cap:Array Value} (V:∀ as w,(callFunc g as).run P w=.ok (.enter g as) w) (D:ev E x=some (.func (.func g) first cap)) (O:evs E args=some us) :
  Enters P n E S (.value x) args g (first.toList++us++cap.toList):=by
 intro U J ty pos af c w h _;have e:args.toArray.map c.eval=us.toArray:=by simp[V5 h O]
 simp only[execOp,resolve,e,h.eval D,Deferred.ofValue,Sem.run_bind,Sem.run_pure,Result.andThen_ok,invoke,V];simp
theorem Ops.callS {x:Callee} {g:FuncId} {args:List Operand} {vs:List Value} {W:Array TypeId} {mf mr:List HA} {φ:IH->Value->List HA->Prop} (he:Enters P n E (Sym w0 M I0 I m) x args g vs)
  (ho:Outs m mf mr) (hf:Fun P g vs.toArray I mf φ) (hb:Nat.blt d n.sz=true) (V:fresh E d=true)
  (k:∀ v D O,I.le D->φ D v O->Ops P ops l n ((d,v) :: E) (Sym w0 M I0 D (O++mr)) Q) :
  Ops P ops (⟨some d,.call ⟨x,args.toArray,W⟩,ty,pos,af,none⟩ :: l) n E (Sym w0 M I0 I m) Q:=by
 intro c w J h;refine wpListIn_plain rfl λ_ hK=>?_;refine kF (he _ _ _ _ _ c w J h) (by simp) ?_;simp only[Oper.uponIn];refine⟨λa2=>(by cases a2),nY (hf.use (h.perm ho.perm) λv D O _ Z hφ U=>hK _ _ (k v D O Z hφ _ _ (J.put hb V v) U))⟩
theorem Ops.mkFn {D:Fn} {first cap:List Operand} {vs:List Value} (O:evs E first=some vs) (U:evs E cap=some us) (V:Nat.blt d n.sz=true) (J:fresh E d=true)
  (k:Ops P ops l n ((d,.func D vs.toArray us.toArray) :: E) S Q):Ops P ops (⟨some d,.makeFunc D first.toArray cap.toArray,ty,pos,af,none⟩ :: l) n E S Q:=
 Ops.makeFunc (λa h=>by simp[V5 h O]) (λa h=>by simp[V5 h U]) V J k
def V6 (J:IH):List HA->Prop
 | []=>True
 | A :: r=>(∃ k:IH,A.holds J k∧k.le J)∧V6 J r
theorem tD {J h:IH} (O:h.le J) (D:I.le J):∀ {mf mr:List HA} {k:IH},NH (mf++mr) I k->k.le h->V6 J mf
 | [],_,_,_,_=>trivial
 | A :: _,mr,_,⟨h1,_,_,hl1,hl2,ha,hs⟩,hk=>⟨⟨h1,A.mono D (IH.le.refl _) ha,(hl1.trans hk).trans O⟩,tD O D (mr:=mr) hs (hl2.trans hk)⟩
theorem ApP {α:Type} {El:EC α} {T:TypeId} {a:Option Addr} {cap:Nat} {xs:List α} {J:IH} (h:∃ k:IH,(OwnSl El T a cap xs).holds J k∧k.le J):RepSl El J a cap xs:=by
 have⟨k,ha,hk⟩:=h;rcases ha with⟨O,D,U⟩ | ⟨b,c,O,D,U,h4,V⟩
 . subst D; exact .nil _ _ _
 . refine⟨U,λi x Z=>?_⟩;have⟨cs,g1,W⟩:=V i x Z;exact⟨b,0,cs,O,⟨c,T,(0,0),hk _ _ D,λj v hj=>by rw[nU]; exact W j v hj⟩,g1⟩
theorem Sym.grown (h:Sym w0 M I0 I m w) {w':World} (D:At7 w (λ_=>False) w'):Sym w0 M I0 I m w':=by
 have⟨O,hi,hn,k,hs,hk,hd,Z⟩:=h
 have U:∀ {J:IH},J.le (hp w)->J.le (hp w'):=λhJ b o e=>by have V:=hJ b o e;have:=D.block b (TD V) (λx=>x);show w'.heap[b]? = some o;rw[this]; exact V
 exact⟨⟨D.os.trans O.os,D.tape.trans O.tape,D.output.trans O.output,gV O.drawn D.drawn,gV O.size D.size,λb W h2=>(D.block b (AjJ W O.size) (λx=>x)).trans (O.block b W h2)⟩,U hi,hn,k,hs,U hk,hd,Z⟩
theorem ApQ {g:FuncId} {vs:List Value} {mf mr:List HA} {ψ:IH->Value->Prop} (hf:∀ J:IH,I.le J->V6 J mf->B3 P g vs J ψ) (ho:Outs m mf mr) (O:Sym w0 M I0 I m w)
  {R:Ending->World->Prop} (U:∀ v J w',ψ J v->Sym w0 M I0 I m w'->R (.returned v) w'):Calls P g vs.toArray w R:=by
 have⟨_,hi,_,k,h,hk,hd,_⟩:=O.perm ho.perm;have D:=IH.le_union_left I k;have Z:(I.union k).le (hp w):=IH.union_le hi hk;refine(hf (I.union k) D (tD (IH.le_union_right hd) D h (IH.le.refl _)) w (λ_=>none) Z trivial (λ_ _ x=>nomatch x) (λ_=>.inr rfl)).mono λ_ w' ha=>?_;obtain⟨v,W,_,rfl,_,⟨_,hψ⟩,hs'⟩:=ha;exact U v W w' hψ (O.grown ⟨hs'.base.os,hs'.base.tape,hs'.base.output,hs'.base.drawn,hs'.base.size,λb V _=>hs'.base.block b V (by simp)⟩)
theorem Ops.callB {x:Callee} {g:FuncId} {args:List Operand} {vs:List Value} {V:Array TypeId} {mf mr:List HA} {ψ:IH->Value->Prop} (he:Enters P n E (Sym w0 M I0 I m) x args g vs)
  (ho:Outs m mf mr) (hf:∀ J:IH,I.le J->V6 J mf->B3 P g vs J ψ) (hb:Nat.blt d n.sz=true) (U:fresh E d=true)
  (k:∀ v J,ψ J v->Ops P ops l n ((d,v) :: E) (Sym w0 M I0 I m) Q) :
  Ops P ops (⟨some d,.call ⟨x,args.toArray,V⟩,ty,pos,af,none⟩ :: l) n E (Sym w0 M I0 I m) Q:=by
 intro c w D W;refine wpListIn_plain rfl λ_ hK=>?_;refine kF (he _ _ _ _ _ c w D W) (by simp) ?_;simp only[Oper.uponIn];refine⟨λh=>(by cases h),nY (ApQ hf ho W λv J _ Z O=>hK _ _ (k v J Z _ _ (D.put hb U v) O))⟩
def kL:TypeDesc->Bool
 | .interface _=>false
 | _=>true
theorem Ops.mkIface {u:TypeDesc} {v:Value} (D:P.underlying T=some u) (V:kL u=true) (J:ev E x=some v) (U:Nat.blt d n.sz=true) (h:fresh E d=true)
  (k:Ops P ops l n ((d,.iface T v) :: E) S Q):Ops P ops (⟨some d,.makeInterface T x,ty,pos,af,none⟩ :: l) n E S Q:=
 Ops.val rfl rfl (λ_ _ O _=>by simp only[execOp,O.eval J,Instr.makeInterface,Sem.run_bind,run_underlying D,Result.andThen_ok];cases u <;> simp_all[kL]) U h k
theorem Ops.assertOk {u:TypeDesc} {v:Value} {D:TypeId} (J:P.underlying T=some u) (W:kL u=true) (O:ev E x=some (.iface T v)) (V:Nat.blt d n.sz=true) (h:fresh E d=true)
  (k:Ops P ops l n ((d,.tuple #[v,.bool true]) :: E) S Q):Ops P ops (⟨some d,.typeAssert x D T true,ty,pos,af,none⟩ :: l) n E S Q:=
 Ops.val rfl rfl (λ_ _ U _=>by simp only[execOp,U.eval O,Instr.typeAssert,Sem.run_bind,run_underlying J,Result.andThen_ok];cases u <;> simp_all[kL]) V h k
theorem Enters.i {g:FuncId} {args:List Operand} {h:Operand} {t:TypeId} {v r:Value} (Z:∀ as w,(callFunc g as).run P w=.ok (.enter g as) w)
  (J:∀ w,(method (P.types.size+Made.depth) t v name).run P w=.ok (g,r) w) (O:ev E h=some (.iface t v)) (V:evs E args=some us) :
  Enters P n E S (.invoke h name) args g (r :: us):=by
 intro W U ty pos af c w D _;have e:args.toArray.map c.eval=us.toArray:=by simp[V5 D V]
 simp only[execOp,resolve,e,D.eval O,Sem.run_bind,Sem.run_pure,Result.andThen_ok,invoke];simp[callMethod,J,Z]
theorem Enters.iv {g:FuncId} {args:List Operand} {h:Operand} {t:TypeId} {v r:Value} (Z:∀ as w,(callFunc g as).run P w=.ok (.enter g as) w)
  (J:∀ w,S w->(method (P.types.size+Made.depth) t v name).run P w=.ok (g,r) w) (O:ev E h=some (.iface t v)) (V:evs E args=some us) :
  Enters P n E S (.invoke h name) args g (r :: us):=by
 intro a2 U ty pos af c w D W;have e:args.toArray.map c.eval=us.toArray:=by simp[V5 D V]
 simp only[execOp,resolve,e,D.eval O,Sem.run_bind,Sem.run_pure,Result.andThen_ok,invoke];simp[callMethod,J w W,Z]
theorem V7 {g t N:Nat} {v r:Value} {b off:Nat} {cs:List Value} {V:TypeId} {U:Nat×Nat} (h:∀ w,(method N t v name).run P w=((loadVar T ⟨b,off,none⟩).run P w).andThen λr w=>.ok (g,r) w)
  (J:∀ w,(isAgg T).run P w=.ok false w) (W:Del m (pto b (.cells cs.toArray V U)) m') (Z:cs[off]? = some r):∀ w,Sym w0 M I0 I m w->(method N t v name).run P w=.ok (g,r) w:=by
 intro w hs;rw[h w];have D:w.cell? ⟨b,off,none⟩=some r:=by rw[MB (hs.del W).pto]; simpa using Z
 have O:(loadVar T ⟨b,off,none⟩).run P w=.ok r w:=by have:=R4 (P:=P) (T:=T) J D;simpa[Instr.loadAt,Instr.sureAddr] using this
 rw[O]; rfl
theorem AeA {a:Array TypeId} {t:TypeId} {p:Addr} {s n:ByteArray} (w:World):(Builtin.ssaWrapNilChk_ a t #[.pointer (some p),.string s,.string n]).run P w=.ok (.pointer (some p)) w:=by rfl
theorem KQ {t g e N b o:Nat} {i:TypeInfo} {m:Method} (O:Nat.blt 0 N=true) (hi:P.info? t=some i) (D:i.methods.find? (·.name==name)=some m) (hp:m.path = #[]) (h:m.func=some (g,false)) (J:P.underlying t=some (.pointer e)) (w:World) :
  (method N t (.pointer (some ⟨b,o,none⟩)) name).run P w=((loadVar e ⟨b,o,none⟩).run P w).andThen λr w=>.ok (g,r) w:=by
 cases N with
 | zero=>cases O
 | succ N=>simp[method,typeInfo,hi,D,hp,h,follow,receiverAt,run_underlying J,Place.get,strVal,AeA,asAddr]
theorem tE {t g e N b o:Nat} {i:TypeInfo} {m:Method} (O:Nat.blt 0 N=true) (hi:P.info? t=some i) (D:i.methods.find? (·.name==name)=some m) (hp:m.path = #[]) (h:m.func=some (g,true)) (J:P.underlying t=some (.pointer e)) (w:World) :
  (method N t (.pointer (some ⟨b,o,none⟩)) name).run P w=.ok (g,.pointer (some ⟨b,o,none⟩)) w:=by
 cases N with
 | zero=>cases O
 | succ N=>simp[method,typeInfo,hi,D,hp,h,follow,receiverAt,run_underlying J,Place.get]
end
section
variable {w0 w:World} {M:Nat→Prop} {I0 I:IH} {m m':List HA}
variable {P:Program} {n:FrK} {E:DG} {Q:Exit→Act→World→Prop} {ops:Array Oper} {l:List Oper}
variable {d ty:Nat} {pos:String} {af:Array Edge} {T e:TypeId} {x y z:Operand}
variable {cur:Option (Value×Value)}
section
variable {κ α:Type} [DecidableEq κ]
/-! ### Maps as lists of pairs -/
def BA (k:κ):List (κ×α)->Option α
 | []=>none
 | p :: r=>if k=p.1 then some p.2 else BA k r
def DY (k:κ) (v:α):List (κ×α)->List (κ×α)
 | []=>[(k,v)]
 | p :: r=>if k=p.1 then (k,v) :: r else p :: DY k v r
def FK (k:κ):List (κ×α)->List (κ×α)
 | []=>[]
 | p :: r=>if k=p.1 then r else p :: FK k r
def lkP (l:List (κ×α)) (k:κ) (z:α) (C:α->Prop):Prop:=C ((BA k l).getD z)
def AhH (l:List (κ×α)) (k:κ) (z:α) (C:α->Bool->Prop):Prop:=C ((BA k l).getD z) (BA k l).isSome
inductive ofC:Bool→List Value→Value→Prop
 | a {cs:List Value}:ofC true cs (.agg cs.toArray)
 | s {v:Value}:ofC false [v] v
variable {ke:κ→Value} {El:EC α} {ag:Bool}
def EntsR (ke:κ->Value) (El:EC α) (ag:Bool) (I:IH):List MapEntry->List (κ×α)->Prop
 | [],[]=>True
 | e :: es,p :: l=>e.key=ke p.1∧(∃ cs,El.rep I cs p.2∧ofC ag cs e.val)∧EntsR ke El ag I es l
 | _,_=>False
theorem EntsR.mono {J:IH} (D:I.le J):∀ {es:List MapEntry} {l:List (κ×α)},EntsR ke El ag I es l->EntsR ke El ag J es l
 | [],[],_=>trivial
 | _ :: _,_ :: _,⟨h1,⟨cs,h2,h3⟩,h4⟩=>⟨h1,⟨cs,El.mono D h2,h3⟩,h4.mono D⟩
 | [],_ :: _,h=>h.elim
 | _ :: _,[],h=>h.elim
def Stamped (l:List MapEntry) (clock:Nat):Prop:=(l.map (·.born)).Nodup∧∀ e∈l,e.born<clock
theorem Stamped.push {l:List MapEntry} {clock:Nat} {e:MapEntry} (h:Stamped l clock) (U:e.born=clock):Stamped (l++[e]) (clock+1):=by
 refine⟨?_,λx D=>?_⟩
 . rw[dA,List.nodup_append];refine⟨h.1,by simp,λ_ O _ J=>?_⟩;simp only[NM,AjX,kB] at J;obtain⟨x,D,rfl⟩:=List.mem_map.1 O;have:=h.2 x D;omega
 . rcases List.mem_append.1 D with D | D
   . have:=h.2 x D; omega
   all_goals grind
theorem ZM {β γ:Type} {f:β->β} {g:β->γ} (h:∀ x,g (f x)=g x):∀ (l:List β) (i:Nat),(l.modify i f).map g=l.map g
 | [],0=>rfl
 | [],_+1=>rfl
 | x :: r,0=>by simp[List.modify_zero_cons,h]
 | x :: r,i+1=>by simp[List.modify_succ_cons,ZM h r i]
theorem Stamped.modify {l:List MapEntry} {clock i:Nat} {f:MapEntry->MapEntry} (h:Stamped l clock) (O:∀ e,(f e).born=e.born):Stamped (l.modify i f) clock:=by have e:=ZM (g:=λe:MapEntry=>e.born) O l i;refine⟨by rw[e]; exact h.1,λx V=>?_⟩;have J:x.born∈(l.modify i f).map (·.born):=AaT V;rw[e] at J;have⟨y,U,D⟩:=List.mem_map.1 J;rw[<-D]; exact h.2 y U
theorem Stamped.sub {l m:List MapEntry} {clock:Nat} (h:Stamped l clock) (D:m.Sublist l):Stamped m clock:=⟨(D.map _).nodup h.1,λx J=>h.2 x (D.mem J)⟩
def OwnMap (ke:κ->Value) (El:EC α) (ag:Bool) (b:Nat) (kvs:List (κ×α)):HA where
 holds I h:=∃ es clock,h b=some (.map es clock)∧EntsR ke El ag I es.toList kvs∧Stamped es.toList clock
 mono:=λhI hh ⟨es,clock,h1,h2,h3⟩=>⟨es,clock,hh _ _ h1,h2.mono hI,h3⟩
def TF (k:κ):List MapEntry->List κ->Nat->Option (Nat×Value)
 | e :: es,x :: ks,j=>if k=x then some (j,e.val) else TF k es ks (j+1)
 | _,_,_=>none
structure fT (P:Program) (kt:TypeId) (ke:κ→Value):Prop where
 chk:∀ e k w,(Instr.checkKey e 10000 kt (ke k)).run P w=.ok () w
 find:∀ (k:κ) (es:List MapEntry) (ks:List κ) (w:World),es.map (·.key)=ks.map ke→(Instr.findKey kt (ke k) es).run P w=.ok (TF k es ks 0) w
 same:∀ k,Instr.sameBits 10000 (ke k) (ke k)=true
theorem qG {q:IntKind} (k:Int):∀ (es:List MapEntry) (D:List Int) (j:Nat),es.map (·.key)=D.map (Value.int q)->Instr.findNow (.int q) (.int q k) es j=some (TF k es D j)
 | [],[],_,_=>rfl
 | e :: es,x :: D,j,h=>by
  simp only[NM,AdX] at h;simp only[Instr.findNow,h.1,Instr.sameNow,if_true];by_cases hk:k=x
  . subst hk; simp[TF]
  . have:(k==x)=false:=by simpa using hk
    simp only[this,TF,hk,if_false];exact qG k es D (j+1) h.2
 | [],_ :: _,_,h=>by simp at h
 | _ :: _,[],_,h=>by simp at h
theorem K2 {q:IntKind} {kt:TypeId} (hd:P.underlying kt=some (.int q)):fT P kt (Value.int q) where
 chk e k w:=by show(Instr.checkKey e (9999+1) kt _).run P w=_;unfold Instr.checkKey;simp only[Sem.run_bind,run_underlying hd,Result.andThen_ok];rfl
 find k es ks w h:=by simp[Instr.findKey,run_underlying hd,qG k es ks 0 h]
 same k:=by simp[Instr.sameBits]
theorem EntsR.keys:∀ {es:List MapEntry} {l:List (κ×α)},EntsR ke El ag I es l->es.map (·.key)=(l.map (·.1)).map ke
 | [],[],_=>rfl
 | _ :: _,_ :: _,⟨D,_,J⟩=>by simp only[NM,D]; rw[J.keys]
 | [],_ :: _,h=>h.elim
 | _ :: _,[],h=>h.elim
theorem EntsR.miss (k:κ):∀ {es:List MapEntry} {l:List (κ×α)} {j:Nat},EntsR ke El ag I es l->TF k es (l.map (·.1)) j=none->BA k l=none∧(∀ v,DY k v l=l++[(k,v)])∧FK k l=l
 | [],[],_,_,_=>⟨rfl,λ_=>rfl,rfl⟩
 | _ :: _,p :: _,j,⟨_,_,h⟩,hf=>by
  simp only[NM,TF] at hf;split at hf
  . cases hf
  . rename_i hk;have⟨_,_,_⟩:=EntsR.miss k h hf;grind[BA,DY,FK]
 | [],_ :: _,_,h,_=>h.elim
 | _ :: _,[],_,h,_=>h.elim
theorem EntsR.hit (k:κ):∀ {es:List MapEntry} {l:List (κ×α)} {j i:Nat} {v:Value},EntsR ke El ag I es l->TF k es (l.map (·.1)) j=some (i,v) ->
  ∃ O,i=j+O∧(∃ e,es[O]? = some e∧e.key=ke k∧e.val=v)∧(∃ x cs,BA k l=some x∧El.rep I cs x∧ofC ag cs v) ∧
    (∀ (f:MapEntry->MapEntry) (x:α),(∀ e,e.key=ke k->(f e).key=ke k)->(∀ e,∃ cs,El.rep I cs x∧ofC ag cs (f e).val)->EntsR ke El ag I (es.modify O f) (DY k x l))∧EntsR ke El ag I (es.eraseIdx O) (FK k l)
 | [],[],_,_,_,_,hf=>by cases hf
 | e :: es,p :: l,j,i,v,⟨h1,h2,h⟩,hf=>by
  simp only[NM,TF] at hf;split at hf
  . rename_i hk;cases hf;refine⟨0,rfl,⟨e,rfl,by rw[h1,hk],rfl⟩,?_,?_,?_⟩
    . have⟨cs,V,U⟩:=h2;exact⟨p.2,cs,by simp[BA,hk],V,U⟩
    . intro f x J D;simp only[List.modify_zero_cons,DY,hk,if_true];exact⟨by rw[J e (by rw[h1,hk]),hk],D e,h⟩
    . simp only[List.eraseIdx_cons_zero,FK,hk,if_true]; exact h
  . rename_i hk;have⟨O,_,V,U,g3,Z⟩:=EntsR.hit k h hf;refine⟨O+1,by omega,by simpa using V,?_,?_,?_⟩
    . have⟨x,cs,W,e2,e3⟩:=U;exact⟨x,cs,by simp[BA,hk,W],e2,e3⟩
    . intro f x J D;simp only[List.modify_succ_cons,DY,hk,if_false];exact⟨h1,h2,g3 f x J D⟩
    . simp only[AsZ,FK,hk,if_false]; exact⟨h1,h2,Z⟩
 | [],_ :: _,_,_,_,h,_=>h.elim
 | _ :: _,[],_,_,_,h,_=>h.elim
theorem EntsR.push {k:κ} {x:α} {e:MapEntry} (hk:e.key=ke k) (D:∃ cs,El.rep I cs x∧ofC ag cs e.val):∀ {es:List MapEntry} {l:List (κ×α)},EntsR ke El ag I es l->EntsR ke El ag I (es++[e]) (l++[(k,x)])
 | [],[],_=>⟨hk,D,trivial⟩
 | _ :: _,_ :: _,⟨J,O,h⟩=>⟨J,O,EntsR.push hk D h⟩
 | [],_ :: _,h=>h.elim
 | _ :: _,[],h=>h.elim
theorem EntsR.length:∀ {es:List MapEntry} {l:List (κ×α)},EntsR ke El ag I es l->es.length=l.length
 | [],[],_=>rfl
 | _ :: _,_ :: _,⟨_,_,h⟩=>by simp[h.length]
 | [],_ :: _,h=>h.elim
 | _ :: _,[],h=>h.elim
variable {b:Nat} {kvs:List (κ×α)} {kt et:TypeId} {k:κ}
theorem OwnMap.opn {r:List HA} (h:Sym w0 M I0 I (OwnMap ke El ag b kvs :: r) w):∃ es clock,(EntsR ke El ag I es.toList kvs∧Stamped es.toList clock)∧Sym w0 M I0 I (pto b (.map es clock) :: r) w:=by have⟨V,hi,O,q,⟨h1,h2,hd',hl1,hl2,⟨es,clock,U,J,D⟩,hs'⟩,hk,hdj,hm⟩:=h;exact⟨es,clock,⟨J,D⟩,V,hi,O,q,⟨h1,h2,hd',hl1,hl2,U,hs'⟩,hk,hdj,hm⟩
theorem OwnMap.cls {r:List HA} {es:Array MapEntry} {clock:Nat} (D:EntsR ke El ag I es.toList kvs∧Stamped es.toList clock) (h:Sym w0 M I0 I (pto b (.map es clock) :: r) w):Sym w0 M I0 I (OwnMap ke El ag b kvs :: r) w:=
 h.weaken λ_ hk=>⟨es,clock,hk,D.1,D.2⟩
theorem OwnMap.set {r:List HA} {es es':Array MapEntry} {clock clock':Nat} (D:EntsR ke El ag I es'.toList kvs∧Stamped es'.toList clock') (h:Sym w0 M I0 I (pto b (.map es clock) :: r) w) :
  ∃ w',(setObj b (.map es' clock')).run P w=.ok () w'∧Sym w0 M I0 I (OwnMap ke El ag b kvs :: r) w':=by
 have hp:=h.pto;refine⟨_,MapKept.run_setObj_map _ hp,OwnMap.cls (clock:=clock') D (h.upd rfl rfl rfl rfl (by simp) (λ_ _=>?_) ?_)⟩
 all_goals grind
theorem Ops.mkMap (ke:κ->Value) (El:EC α) (ag:Bool) (V:Nat.blt d n.sz=true) (O:fresh E d=true)
  (J:∀ b,Ops P ops l n ((d,.map (some b)) :: E) (Sym w0 M I0 I (OwnMap ke El ag b [] :: m)) Q):Ops P ops (⟨some d,.makeMap T none,ty,pos,af,none⟩ :: l) n E (Sym w0 M I0 I m) Q:=
 Ops.valx (λv w'=>∃ b,v=.map (some b)∧Sym w0 M I0 I (OwnMap ke El ag b [] :: m) w') rfl rfl
  (λc w D h=>⟨.map (some w.heap.size),w.alloc (.map #[] 0),by simp[execOp,Instr.makeMap],_,rfl,OwnMap.cls ⟨by trivial,by simp[Stamped]⟩ (h.alloc _)⟩) V O
  (λv c w D ⟨b,U,h⟩=>by subst U; exact J b c w D h)
theorem aQ {r:List HA} (K:fT P kt ke) (Z:P.underlying T=some (.map kt et)) {zv:Value} {z:α} (hz:∀ w,(zeroValue et).run P w=.ok zv w) (W:∃ cs,El.rep I cs z∧ofC ag cs zv)
  (a2:Sym w0 M I0 I (OwnMap ke El ag b kvs :: r) w) (O:Bool) :
  ∃ v cs,El.rep I cs ((BA k kvs).getD z)∧ofC ag cs v∧(Instr.lookup T (.map (some b)) (ke k) O).run P w=.ok (if O then .tuple #[v,.bool (BA k kvs).isSome] else v) w:=by
 have⟨es,_,⟨hE,_⟩,hs⟩:=OwnMap.opn a2;have hp:=hs.pto;have D:=K.find k es.toList (kvs.map (·.1)) w hE.keys
 cases h:TF k es.toList (kvs.map (·.1)) 0 with
 | none=>
  have⟨J,_,_⟩:=hE.miss k h;have⟨cs,U,V⟩:=W;refine⟨zv,cs,by rw[J]; exact U,V,?_⟩;rw[J];simp only[Instr.lookup,Sem.run_bind,run_underlying Z,Result.andThen_ok,MapKept.run_getObj_map hp,Sem.run_pure,K.chk,D,h,hz]
  cases O <;> rfl
 | some iv=>
  have⟨_,v⟩:=iv;have⟨_,_,_,⟨_,cs,J,U,V⟩,_,_⟩:=hE.hit k h;refine⟨v,cs,by rw[J]; exact U,V,?_⟩;rw[J];simp only[Instr.lookup,Sem.run_bind,run_underlying Z,Result.andThen_ok,MapKept.run_getObj_map hp,Sem.run_pure,K.chk,D,h];cases O <;> rfl
theorem Ops.lookM {zv:Value} {z:α} {C:α->Prop} (K:fT P kt ke) (Z:P.underlying T=some (.map kt et)) (W:∀ w,(zeroValue et).run P w=.ok zv w) (U:∃ cs,El.rep I cs z∧ofC ag cs zv)
  (hA:Del m (OwnMap ke El ag b kvs) m') (hx:ev E x=some (.map (some b))) (hy:ev E y=some (ke k)) (hd:lkP kvs k z C) (hb:Nat.blt d n.sz=true) (hf:fresh E d=true)
  (V:∀ v r cs,C r->El.rep I cs r->ofC ag cs v->Ops P ops l n ((d,v) :: E) (Sym w0 M I0 I m) Q):Ops P ops (⟨some d,.lookup T x y false,ty,pos,af,none⟩ :: l) n E (Sym w0 M I0 I m) Q:=
 Ops.valx (λv w'=>(∃ cs,El.rep I cs ((BA k kvs).getD z)∧ofC ag cs v)∧Sym w0 M I0 I m w') rfl rfl
  (λc w h D=>by have⟨v,cs,O,J,g3⟩:=aQ (k:=k) K Z W U (D.del hA) false;refine⟨v,w,?_,⟨cs,O,J⟩,D⟩;simp[execOp,h.eval hx,h.eval hy,g3]) hb hf
  (λv c w h ⟨⟨cs,O,J⟩,D⟩=>V v _ cs hd O J c w h D)
theorem Ops.lookM2 {zv:Value} {z:α} {C:α->Bool->Prop} (K:fT P kt ke) (Z:P.underlying T=some (.map kt et)) (W:∀ w,(zeroValue et).run P w=.ok zv w) (U:∃ cs,El.rep I cs z∧ofC ag cs zv)
  (hA:Del m (OwnMap ke El ag b kvs) m') (hx:ev E x=some (.map (some b))) (hy:ev E y=some (ke k)) (hd:AhH kvs k z C) (hb:Nat.blt d n.sz=true) (hf:fresh E d=true)
  (V:∀ v r t cs,C r t->El.rep I cs r->ofC ag cs v->Ops P ops l n ((d,.tuple #[v,.bool t]) :: E) (Sym w0 M I0 I m) Q):Ops P ops (⟨some d,.lookup T x y true,ty,pos,af,none⟩ :: l) n E (Sym w0 M I0 I m) Q:=
 Ops.valx (λu w'=>(∃ v cs,u=.tuple #[v,.bool (BA k kvs).isSome]∧El.rep I cs ((BA k kvs).getD z)∧ofC ag cs v)∧Sym w0 M I0 I m w') rfl rfl
  (λc w h D=>by have⟨v,cs,O,J,g3⟩:=aQ (k:=k) K Z W U (D.del hA) true;refine⟨_,w,?_,⟨v,cs,rfl,O,J⟩,D⟩;simp[execOp,h.eval hx,h.eval hy,g3]) hb hf
  (λu c w h ⟨⟨v,cs,hu,O,J⟩,D⟩=>by subst hu; exact V v _ _ cs hd O J c w h D)
theorem Ops.updM {v:α} {u:Value} (K:fT P kt ke) (hT:P.underlying T=some (.map kt et)) (hA:At m (OwnMap ke El ag b kvs) m' (OwnMap ke El ag b (DY k v kvs))) (hx:ev E x=some (.map (some b))) (hy:ev E y=some (ke k)) (hv:ev E z=some u)
    (hr:∃ cs,El.rep I cs v∧ofC ag cs u) (k':Ops P ops l n E (Sym w0 M I0 I m') Q):Ops P ops (⟨none,.mapUpdate T x y z,ty,pos,af,none⟩ :: l) n E (Sym w0 M I0 I m) Q:=
  Ops.act rfl rfl (fun c w ho hs=>by
    obtain ⟨r,h2,h3⟩:=hA.del
    obtain ⟨es,clock,⟨hE,hSt⟩,hs1⟩:=OwnMap.opn (hs.del h2)
    have hp:=hs1.pto
    have hfd:=K.find k es.toList (kvs.map (·.1)) w hE.keys
    cases hf:TF k es.toList (kvs.map (·.1)) 0 with
    | none=>
      obtain ⟨_,g2,_⟩:=hE.miss k hf
      obtain ⟨w',hr',hs'⟩:=OwnMap.set (P:=P) (es':=es.push { key:=ke k,val:=u,born:=clock }) (clock':=clock+1) (kvs:=DY k v kvs) (by rw [g2,Array.toList_push]; exact ⟨EntsR.push (ke:=ke) (e:={ key:=ke k,val:=u,born:=clock }) rfl hr hE,hSt.push rfl⟩) hs1
      refine ⟨w',?_,hs'.undel h3⟩
      simp only [execOp,ho.eval hx,ho.eval hy,ho.eval hv,Instr.mapUpdate,Sem.run_bind,run_underlying hT,Result.andThen_ok,MapKept.run_getObj_map hp,K.chk,hfd,hf,hr',Sem.run_pure]
    | some iv=>
      obtain ⟨i,u'⟩:=iv
      obtain ⟨i',hi,⟨e0,q1,q2,q3⟩,_,g3,_⟩:=hE.hit k hf
      have hi':i'=i:=by omega
      subst hi'
      have hkey:((es[i']?.map (·.key)).getD (ke k))=ke k:=by
        grind
      obtain ⟨w',hr',hs'⟩:=OwnMap.set (P:=P) (es':=es.modify i' fun e=>{ e with key:=ke k,val:=u }) (clock':=clock) (kvs:=DY k v kvs) (by rw [Array.toList_modify]; exact ⟨g3 _ _ (fun _ _=>rfl) (fun _=>hr),hSt.modify fun _=>rfl⟩) hs1
      refine ⟨w',?_,hs'.undel h3⟩
      simp only [execOp,ho.eval hx,ho.eval hy,ho.eval hv,Instr.mapUpdate,Sem.run_bind,run_underlying hT,Result.andThen_ok,MapKept.run_getObj_map hp,K.chk,hfd,hf,hkey,Instr.keyThatStays,K.same,if_true,hr',Sem.run_pure]) k'
theorem Ops.delM {U:Array TypeId} (K:fT P kt ke) (hT:P.underlying T=some (.map kt et)) (a2:U[0]? = some T) (hA:At m (OwnMap ke El ag b kvs) m' (OwnMap ke El ag b (FK k kvs))) (hx:ev E x=some (.map (some b))) (hy:ev E y=some (ke k))
  (k':Ops P ops l n E (Sym w0 M I0 I m') Q):Ops P ops (⟨none,.call ⟨.builtin .delete,#[x,y],U⟩,ty,pos,af,none⟩ :: l) n E (Sym w0 M I0 I m) Q:=
 Ops.val0 rfl rfl (fun c w ho hs=>by
  obtain ⟨_,h2,h3⟩:=hA.del
  obtain ⟨es,clock,⟨W,V⟩,hs1⟩:=OwnMap.opn (hs.del h2)
  have hp:=hs1.pto
  have O:=K.find k es.toList (kvs.map (·.1)) w W.keys
  have e0:(#[x,y].map c.eval) = #[.map (some b),ke k]:=by simp [ho.eval hx,ho.eval hy]
  cases h:TF k es.toList (kvs.map (·.1)) 0 with
  | none=>
   obtain ⟨_,_,g3⟩:=W.miss k h
   obtain ⟨w',J,D⟩:=OwnMap.set (P:=P) (es':=es) (clock':=clock) (kvs:=FK k kvs) (by rw [g3]; exact ⟨W,V⟩) hs1
   refine ⟨.tuple #[],w',?_,D.undel h3⟩
   simp [execOp,resolve,e0,invoke,builtin,Builtin.delete_,a2,run_underlying hT,MapKept.run_getObj_map hp,K.chk,O,h,J]
  | some iv=>
   obtain ⟨i,_⟩:=iv
   obtain ⟨Z,_,_,_,_,g4⟩:=W.hit k h
   have a3:Z=i:=by omega
   subst a3
   obtain ⟨w',J,D⟩:=OwnMap.set (P:=P) (es':=es.eraseIdxIfInBounds Z) (clock':=clock) (kvs:=FK k kvs) (by
    have e1:(es.eraseIdxIfInBounds Z).toList=es.toList.eraseIdx Z:=by
     unfold Array.eraseIdxIfInBounds
     split
     · simp
     · rw [List.eraseIdx_of_length_le (by simp; omega)]
    rw [e1]; exact ⟨g4,V.sub (List.eraseIdx_sublist _ _)⟩) hs1
   refine ⟨.tuple #[],w',?_,D.undel h3⟩
   simp [execOp,resolve,e0,invoke,builtin,Builtin.delete_,a2,run_underlying hT,MapKept.run_getObj_map hp,K.chk,O,h,J]) k'
theorem AeB {D:TypeDesc} (O:∀ k x,Instr.sameNow D (ke k) (ke x)=none) (k:κ):∀ (es:List MapEntry) (J:List κ),es.map (·.key)=J.map ke->Instr.findNow D (ke k) es 0=if es=[] then some none else none
 | [],[],_=>by simp[Instr.findNow]
 | e :: es,x :: J,h=>by
  simp only[NM,AdX] at h;simp[Instr.findNow,h.1,O]
 | [],_ :: _,h=>by simp at h
 | _ :: _,[],h=>by simp at h
theorem fU (D:∀ (k x:κ) (w:World),(Op.equal kt (ke k) (ke x)).run P w=.ok (decide (k=x)) w) (k:κ):∀ (es:List MapEntry) (J:List κ) (j:Nat) (w:World),es.map (·.key)=J.map ke->(Instr.findAsking kt (ke k) es j).run P w=.ok (TF k es J j) w
 | [],[],_,_,_=>rfl
 | e :: es,x :: J,j,w,h=>by
  simp only[NM,AdX] at h;simp only[Instr.findAsking,Sem.run_bind,h.1,D,Result.andThen_ok];by_cases hk:k=x
  . simp[hk,TF]
  . simp only[hk,decide_false,AaU,if_false,TF];exact fU D k es J (j+1) w h.2
 | [],_ :: _,_,_,h=>by simp at h
 | _ :: _,[],_,_,h=>by simp at h
theorem AvW {kd:TypeDesc} (hd:P.underlying kt=some kd) (hn:∀ k x,Instr.sameNow kd (ke k) (ke x)=none) (heq:∀ (k x:κ) (w:World),(Op.equal kt (ke k) (ke x)).run P w=.ok (decide (k=x)) w)
  (hchk:∀ e k w,(Instr.checkKey e 10000 kt (ke k)).run P w=.ok () w) (hsame:∀ k,Instr.sameBits 10000 (ke k) (ke k)=true):fT P kt ke where
 chk:=hchk
 find k es ks w h:=by
  have h1:=AeB hn k es ks h;simp only[Instr.findKey,Sem.run_bind,run_underlying hd,Result.andThen_ok,h1];by_cases h0:es=[]
  . subst h0
    cases ks with
    | nil=>rfl
    | cons=>simp at h
  all_goals grind[fU]
 same:=hsame
def KR (x:Int×Int):Value:=.agg #[.int .i64 x.1,.int .i64 x.2]
theorem At9 (d:Nat) {t e:TypeId} {i:TypeInfo} (J:P.underlying t=some (.array 2 e)) (hi:P.info? e=some i) (V:P.underlying e=some (.int .i64)) (Z:P.cellsOf e=1) (h:∀ w,(isAgg e).run P w=.ok false w) (k x:Int×Int) (w:World) :
   (Op.equalIn (d+2) t (KR k) (KR x)).run P w=.ok (decide (k=x)) w:=by
 have⟨k1,W⟩:=k;have⟨O,U⟩:=x;unfold KR;rw[run_equalIn_array w (d+1) _ _ J hi];have D:=λa b=>run_equalIn_int (P:=P) w d e .i64 .i64 a b V;simp only[Z,show List.range 2=[0,1] from rfl,Op.eqItems,Sem.run_bind,part,h,Result.andThen_ok];simp[D];by_cases e1:k1=O
 . by_cases e2:W=U <;> simp[e1,e2,h,D]
 . simp[e1,h]
theorem Ak6 {kt e:TypeId} {i:TypeInfo} (h:P.underlying kt=some (.array 2 e)) (hi:P.info? e=some i) (J:P.underlying e=some (.int .i64)) (W:P.cellsOf e=1) (O:∀ w,(isAgg e).run P w=.ok false w) (U:∀ w,(sizeOf e).run P w=.ok 1 w):fT P kt KR:=by
 refine AvW h (λ_ _=>rfl) (λk x w=>At9 9998 h hi J W O k x w) (λD k w=>?_) (λk=>?_)
 . show(Instr.checkKey D (9998+1+1) kt _).run P w=_;unfold Instr.checkKey KR;simp only[Sem.run_bind,run_underlying h,Result.andThen_ok]
   have V:∀ (a:Int) (w:World),(Instr.checkKey D (9998+1) e (.int .i64 a)).run P w=.ok () w:=λa w=>by unfold Instr.checkKey;simp only[Sem.run_bind,run_underlying J,Result.andThen_ok];rfl
   simp[Std.Legacy.Range.forIn_eq_forIn_range',Std.Legacy.Range.size,List.range',U,part,O,V]
 . simp[KR,Instr.sameBits]
def zF (rest:List (κ×α)) (A:Prop) (B:κ×α->List (κ×α)->Prop):Prop:=(rest=[]->A)∧∀ (i:Nat) (p:κ×α),rest[i]? = some p->B p (rest.eraseIdx i)
def ApR (cur:Option (Value×Value)) (es:List MapEntry) (clock h:Nat) (seen:Array Nat):Prop:=match cur with
 | none=>True
 | some kv=>clock=h∧∃ e∈es,seen.back? = some e.born∧e.key=kv.1∧e.val=kv.2
def OwnIt (ke:κ->Value) (El:EC α) (ag:Bool) (b r:Nat) (kvs rest:List (κ×α)) (cur:Option (Value×Value)):HA where
 holds I h:=∃ es clock since seen c0,h b=some (.map es clock)∧EntsR ke El ag I es.toList kvs∧Stamped es.toList clock∧h r=some (.mapIter (some b) since seen c0)∧(∀ e∈es.toList,e.born<since)∧since<=c0∧since<=clock∧EntsR ke El ag I (leftOf es seen).toList rest∧ApR cur es.toList clock c0 seen
 mono:=λhI hh ⟨es,clock,since,seen,c0,h1,h2,h3,h4,h5,h6,h7,h8,h9⟩=>⟨es,clock,since,seen,c0,hh _ _ h1,h2.mono hI,h3,hh _ _ h4,h5,h6,h7,h8.mono hI,h9⟩
theorem EntsR.get:∀ {es:List MapEntry} {l:List (κ×α)} {i:Nat} {e:MapEntry},EntsR ke El ag I es l→es[i]? = some e→∃ p,l[i]? = some p∧e.key=ke p.1∧∃ cs,El.rep I cs p.2∧ofC ag cs e.val
 | _ :: _,p :: _,0,_,⟨h1,h2,_⟩,he=>by cases he; exact ⟨p,rfl,h1,h2⟩
 | _ :: _,_ :: _,i+1,_,⟨_,_,h⟩,he=>by
  obtain ⟨p,_⟩:=EntsR.get (i:=i) h (by simpa using he)
  grind
 | [],[],_,_,_,he=>by simp at he
 | [],_ :: _,_,_,h,_=>h.elim
 | _ :: _,[],_,_,h,_=>h.elim
theorem EntsR.erase:∀ {es:List MapEntry} {l:List (κ×α)} (i:Nat),EntsR ke El ag I es l->EntsR ke El ag I (es.eraseIdx i) (l.eraseIdx i)
 | [],[],_,_=>trivial
 | _ :: _,_ :: _,0,⟨_,_,h⟩=>h
 | _ :: _,_ :: _,i+1,⟨D,J,h⟩=>⟨D,J,EntsR.erase i h⟩
 | [],_ :: _,_,h=>h.elim
 | _ :: _,[],_,h=>h.elim
theorem kM {e:MapEntry}:∀ {l:List MapEntry} {i:Nat},(l.map (·.born)).Nodup->l[i]? = some e->l.filter (λx=>!(x.born==e.born))=l.eraseIdx i
 | [],_,_,h=>by simp at h
 | x :: r,0,hn,h=>by
  cases h;simp only[NM,sS] at hn;simp only[AoV,beq_self_eq_true,Bool.not_true,AaU,if_false,List.eraseIdx_cons_zero];refine List.filter_eq_self.2 λy U=>?_;have:y.born≠e.born:=λD=>hn.1 (D▸AaT U);simpa using this
 | x :: r,i+1,hn,h=>by
  simp only[NM,sS] at hn;have O:r[i]? = some e:=by simpa using h
  have J:x.born≠e.born:=λD=>hn.1 (D▸AaT (At6 O));have V:(x.born==e.born)=false:=by simpa using J
  simp only[AoV,V,Bool.not_false,if_true,AsZ];rw[kM hn.2 O]
theorem Ab2 {es:Array MapEntry} {seen:Array Nat} {e:MapEntry} {i:Nat} {clock:Nat} (J:Stamped es.toList clock) (hi:(leftOf es seen).toList[i]? = some e):(leftOf es (seen.push e.born)).toList=(leftOf es seen).toList.eraseIdx i:=by
 have h:(leftOf es seen).toList.Sublist es.toList:=by unfold leftOf; simp_all
 have D:((leftOf es seen).toList.map (·.born)).Nodup:=(h.map _).nodup J.1;rw[<-kM D hi];unfold leftOf;rw[Array.toList_filter,Array.toList_filter,List.filter_filter];grind
theorem Sym.join2 {A B C:HA} {l:List HA} (h:Sym w0 M I0 I (A :: B :: l) w) (hc:∀ D J,D.disj J->A.holds I D->B.holds I J->C.holds I (D.union J)):Sym w0 M I0 I (C :: l) w:=by
 have⟨Z,hi,W,k,⟨D,_,hd,hl1,hl2,ha,J,h3,hd',hl3,hl4,hB,hs⟩,hk,hdj,hm⟩:=h;have V:D.disj J:=hd.mono (IH.le.refl _) hl3;have O:D.disj h3:=hd.mono (IH.le.refl _) hl4;refine⟨Z,hi,W,k,⟨D.union J,h3,?_,IH.union_le hl1 (hl3.trans hl2),hl4.trans hl2,hc D J V ha hB,hs⟩,hk,hdj,hm⟩;intro b;rcases O b with h | h
 . rcases hd' b with U | U
   . left; simp[IH.union,h,U]
   . exact .inr U
 . exact .inr h
theorem Sym.split2 {A B C:HA} {l:List HA} (h:Sym w0 M I0 I (C :: l) w) (hc:∀ q,C.holds I q->∃ J D,J.disj D∧J.le q∧D.le q∧A.holds I J∧B.holds I D):Sym w0 M I0 I (A :: B :: l) w:=by
 have⟨hb,hi,Z,k,⟨q,k1,hd,hl1,hl2,ha,hs⟩,hk,hdj,hm⟩:=h;have⟨J,D,V,W,O,hA,hB⟩:=hc q ha;refine⟨hb,hi,Z,k,⟨J,D.union k1,?_,W.trans hl1,IH.union_le (O.trans hl1) hl2,hA,D,k1,hd.mono O (IH.le.refl _),IH.le_union_left _ _,IH.le_union_right (hd.mono O (IH.le.refl _)),hB,hs⟩,hk,hdj,hm⟩;intro b;rcases V b with h | h
 . exact .inl h
 . rcases(hd.mono W (IH.le.refl k1)) b with U | U
   . exact .inl U
   . right; simp[IH.union,h,U]
variable {r:Nat} {rest:List (κ×α)}
def pto2 (b:Nat) (o:Obj) (r:Nat) (o':Obj):HA where
 holds _ h:=h b=some o∧h r=some o'
 mono:=λ_ hh h=>⟨hh _ _ h.1,hh _ _ h.2⟩
theorem Sym.pto2 {b r:Nat} {o o':Obj} {l:List HA} (D:r≠b) (h:Sym w0 M I0 I (Fw.pto2 b o r o' :: l) w):Sym w0 M I0 I (Fw.pto r o' :: Fw.pto b o :: l) w:=by
 refine h.split2 λ_ O=>⟨GH r o',GH b o,λc=>?_,λc p e=>?_,λc p e=>?_,by simp[Fw.pto,GH],by simp[Fw.pto,GH]⟩
 . by_cases e:c=r
   . right; subst e; simp[GH,D]
   . left; simp[GH,e]
 . simp only[GH] at e; split at e
   . rename_i J; subst J; cases e; exact O.2
   . cases e
 . simp only[GH] at e; split at e
   . rename_i J; subst J; cases e; exact O.1
   . cases e
theorem OwnIt.opn {cur:Option (Value×Value)} {l:List HA} (h:Sym w0 M I0 I (OwnIt ke El ag b r kvs rest cur :: l) w):∃ es clock D seen J,EntsR ke El ag I es.toList kvs∧Stamped es.toList clock∧(∀ e∈es.toList,e.born<D)∧D<=J∧D<=clock∧EntsR ke El ag I (leftOf es seen).toList rest∧ApR cur es.toList clock J seen ∧
  Sym w0 M I0 I (pto r (.mapIter (some b) D seen J) :: pto b (.map es clock) :: l) w:=by
 have⟨hb,hi,hn,q,⟨q1,q2,hd',hl1,hl2,⟨es,clock,D,seen,J,V,g2,g3,O,W,g6,g7,g8,Z⟩,hs'⟩,hkk,hdj,hm⟩:=h;have U:r≠b:=λe=>by subst e; rw[V] at O; cases O
 have h2:Sym w0 M I0 I (Fw.pto2 b (.map es clock) r (.mapIter (some b) D seen J) :: l) w:=⟨hb,hi,hn,q,⟨q1,q2,hd',hl1,hl2,⟨V,O⟩,hs'⟩,hkk,hdj,hm⟩;exact⟨es,clock,D,seen,J,g2,g3,W,g6,g7,g8,Z,h2.pto2 U⟩
theorem OwnIt.cls {l:List HA} {es:Array MapEntry} {clock D J:Nat} {seen:Array Nat} (W:EntsR ke El ag I es.toList kvs) (h3:Stamped es.toList clock) (O:∀ e∈es.toList,e.born<D) (V:D<=J) (U:D<=clock) (h8:EntsR ke El ag I (leftOf es seen).toList rest) (h9:ApR cur es.toList clock J seen)
  (h:Sym w0 M I0 I (pto r (.mapIter (some b) D seen J) :: pto b (.map es clock) :: l) w):Sym w0 M I0 I (OwnIt ke El ag b r kvs rest cur :: l) w:=
 h.join2 λq1 q2 hd Z hb=>⟨es,clock,D,seen,J,IH.le_union_right hd _ _ hb,W,h3,IH.le_union_left q1 q2 _ _ Z,O,V,U,h8,h9⟩
theorem Ops.rangeM (O:P.underlying T=some (.map kt et)) (U:Del m (OwnMap ke El ag b kvs) m') (V:ev E x=some (.map (some b))) (Z:Nat.blt d n.sz=true) (hf:fresh E d=true)
  (J:∀ r,Ops P ops l n ((d,.pointer (some ⟨r,0,none⟩)) :: E) (Sym w0 M I0 I (OwnIt ke El ag b r kvs kvs none :: m')) Q):Ops P ops (⟨some d,.range T x,ty,pos,af,none⟩ :: l) n E (Sym w0 M I0 I m) Q:=
 Ops.valx (λv w'=>∃ r,v=.pointer (some ⟨r,0,none⟩)∧Sym w0 M I0 I (OwnIt ke El ag b r kvs kvs none :: m') w') rfl rfl
  (λc w h D=>by
   have⟨es,clock,⟨hE,hSt⟩,hs1⟩:=OwnMap.opn (D.del U);have hp:=hs1.pto;refine⟨.pointer (some ⟨w.heap.size,0,none⟩),w.alloc (.mapIter (some b) clock #[] clock),?_,_,rfl,OwnIt.cls (seen:=#[]) hE hSt hSt.2 (Y3 _) (Y3 _) ?_ trivial (hs1.alloc _)⟩
   . simp only[execOp,h.eval V,Instr.range,Sem.run_bind,run_underlying O,Result.andThen_ok,MapKept.run_getObj_map hp,Sem.run_pure];rfl
   . have:leftOf es #[]=es:=by unfold leftOf; rw[Array.filter_eq_self]; simp
     rw[this]; exact hE) Z hf
  (λv c w h ⟨r,W,D⟩=>by subst W; exact J r c w h D)
theorem Ops.nextM {A:Prop} {B:κ×α->List (κ×α)->Prop} (hA:Del m (OwnIt ke El ag b r kvs rest cur) m') (hx:ev E x=some (.pointer (some ⟨r,0,none⟩))) (hd:zF rest A B) (hb:Nat.blt d n.sz=true) (hf:fresh E d=true)
   (k1:A->rest=[]->Ops P ops l n ((d,.tuple #[.bool false]) :: E) (Sym w0 M I0 I m) Q)
   (k2:∀ (p:κ×α) (O:List (κ×α)) v cs,B p O->El.rep I cs p.2->ofC ag cs v->rest≠[]->Ops P ops l n ((d,.tuple #[.bool true,ke p.1,v]) :: E) (Sym w0 M I0 I (OwnIt ke El ag b r kvs O (some (ke p.1,v)) :: m')) Q) :
   Ops P ops (⟨some d,.next x false,ty,pos,af,none⟩ :: l) n E (Sym w0 M I0 I m) Q:=by
 intro c w W hs;have⟨es,clock,h,seen,c0,hE,a5,a4,c1,a2,Z,_,U⟩:=OwnIt.opn (hs.del hA);have hr:=U.pto;have a7:=(U.del (.s .z)).pto;refine wpListIn_plain rfl λ_ hK=>?_;rcases run_next_at (P:=P) w ty r b h c0 seen es clock hr a7 a4 c1 with⟨h0,J⟩ | ⟨e,he,V,c2,J⟩
 . have a3:rest=[]:=by have:=Z.length;grind
   have D:(execOp c.eval ⟨some d,.next x false,ty,pos,af,none⟩).run P w=.ok (.value (.tuple #[.bool false])) w:=by simp[execOp,W.eval hx,J]
   refine kF D (by simp) ?_;simp only[Oper.uponIn];exact hK _ _ (k1 (hd.1 a3) a3 _ _ (W.put hb hf _) hs)
 . have⟨i,hi⟩:=List.getElem?_of_mem he;have⟨p,hp,hkey,cs,d0,a9⟩:=Z.get hi;have D:(execOp c.eval ⟨some d,.next x false,ty,pos,af,none⟩).run P w=.ok (.value (.tuple #[.bool true,e.key,e.val])) (ChangeMaps.setBlock V r (.mapIter (some b) h (seen.push e.born) clock)):=by simp[execOp,W.eval hx,J]
   refine kF D (by simp) ?_;simp only[Oper.uponIn]
   have a6:Sym w0 M I0 I (pto r (.mapIter (some b) h seen c0) :: pto b (.map es clock) :: m') V:=by
     rcases c2 with rfl | rfl
     . exact U
     . exact U.drew _ (Ak1 _)
   have b0:=a6.pto
   have b1:=a6.upd (o':=.mapIter (some b) h (seen.push e.born) clock) (w':=ChangeMaps.setBlock V r (.mapIter (some b) h (seen.push e.born) clock)) rfl rfl rfl rfl (by simp[ChangeMaps.setBlock])
     (λq _=>by show(V.heap.setIfInBounds r _)[q]? = _; rw[AoN,if_neg (by omega)])
     (by show(V.heap.setIfInBounds r _)[r]? = _; have:=(Array.getElem?_eq_some_iff.1 b0).1; rw[AoN,if_pos rfl,if_pos this])
   have a8:rest≠[]:=λe'=>by rw[e'] at hp; simp at hp
   rw[hkey];refine hK _ _ (k2 p (rest.eraseIdx i) e.val cs (hd.2 i p hp) d0 a9 a8 _ _ (W.put hb hf _) (OwnIt.cls hE a5 a4 a2 a2 ?_ ⟨rfl,e,?_,by simp,hkey,rfl⟩ b1))
   . rw[Ab2 a5 hi];exact Z.erase i
   . have:e∈leftOf es seen:=by simpa using he
     unfold leftOf at this;grind
theorem Ops.entryM {kv h:Value} (hA:Del m (OwnIt ke El ag b r kvs rest (some (kv,h))) m') (hx:ev E x=some (.pointer (some ⟨r,0,none⟩))) (hb:Nat.blt d n.sz=true) (hf:fresh E d=true)
  (k':Ops P ops l n ((d,.tuple #[kv,h]) :: E) (Sym w0 M I0 I (OwnIt ke El ag b r kvs rest none :: m')) Q):Ops P ops (⟨some d,.entry x,ty,pos,af,none⟩ :: l) n E (Sym w0 M I0 I m) Q:=by
 intro c w Z hs;have⟨es,clock,a3,seen,_,hE,V,W,a4,O,hL,⟨h1,e,h2,_,h4,h5⟩,hs1⟩:=OwnIt.opn (hs.del hA);have hr:=hs1.pto;have a2:=(hs1.del (.s .z)).pto;simp only at h4 h5;refine wpListIn_plain rfl λ_ hK=>?_
 obtain⟨pre,D⟩:∃ pre:Array Nat,seen=pre.push e.born:=by refine⟨seen.pop,?_⟩;grind
 subst D h1;have U:=run_entry_at (P:=P) w r b a3 pre es clock e hr a2 h2 V.1;have J:(execOp c.eval ⟨some d,.entry x,ty,pos,af,none⟩).run P w=.ok (.value (.tuple #[kv,h])) w:=by simp[execOp,Z.eval hx,U,h4,h5]
 refine kF J (by simp) ?_;simp only[Oper.uponIn];exact hK _ _ (k' _ _ (Z.put hb hf _) (OwnIt.cls hE V W a4 O hL trivial hs1))
theorem Ops.itEnd (O:Del m (OwnIt ke El ag b r kvs rest cur) m') (D:Ops P ops l n E (Sym w0 M I0 I (OwnMap ke El ag b kvs :: m')) Q):Ops P ops l n E (Sym w0 M I0 I m) Q:=
 Ops.pre (λ_ h=>(h.del O).weaken (B:=OwnMap ke El ag b kvs) λ_ ⟨es,clock,_,_,_,J,U,V,_⟩=>⟨es,clock,J,U,V⟩) D
theorem Cod.itEnd {c:Code} (O:Del m (OwnIt ke El ag b r kvs rest cur) m') (D:Cod P c n E (Sym w0 M I0 I (OwnMap ke El ag b kvs :: m')) Q):Cod P c n E (Sym w0 M I0 I m) Q:=
 Cod.pre (λ_ h=>(h.del O).weaken (B:=OwnMap ke El ag b kvs) λ_ ⟨es,clock,_,_,_,J,U,V,_⟩=>⟨es,clock,J,U,V⟩) D
theorem Ops.lenM {h:Array TypeId} (O:P.underlying T=some (.map kt et)) (D:h[0]? = some T) (U:Del m (OwnMap ke El ag b kvs) m') (V:ev E x=some (.map (some b))) (Z:Nat.blt d n.sz=true) (hf:fresh E d=true)
  (J:Ops P ops l n ((d,.int .i64 (kvs.length:Int)) :: E) (Sym w0 M I0 I m) Q):Ops P ops (⟨some d,.call ⟨.builtin .len,#[x],h⟩,ty,pos,af,none⟩ :: l) n E (Sym w0 M I0 I m) Q:=
 Ops.val rfl rfl (λ_ _ W hs=>by
  have⟨es,_,⟨hE,_⟩,hs1⟩:=OwnMap.opn (hs.del U);have e1:es.size=kvs.length:=by have:=hE.length; simpa using this
  simp[execOp,resolve,invoke,builtin,Builtin.len_,W.eval V,D,run_underlying O,MapKept.run_getObj_map hs1.pto,goInt,e1]) Z hf J
end
theorem RepSl.ofNone {α:Type} {El:EC α} {cap:Nat} {xs:List α} {a:Option Addr} (h:RepSl El I a cap xs) (J:a.isNone=true):xs=[]:=by
 cases xs with
 | nil=>rfl
 | cons x r=>have⟨_,_,_,D,_⟩:=h.2 0 x rfl; subst D; cases J
def AhI {α:Type} (xs:List α) (A B:Prop):Prop:=(xs=[]->A)∧B
theorem xD (w:World) (d:Nat) (t e:TypeId) (a:Option Addr) (l c:Nat) (h:P.underlying t=some (.slice e)):(Op.equalIn (d+1) t (.slice a l c) (.slice none 0 0)).run P w=.ok a.isNone w:=by cases a <;> simp[Op.equalIn,run_underlying h]
theorem Ab3 (w:World) (t e:TypeId) (a:Option Addr) (l c:Nat) (h:P.underlying t=some (.slice e)):(Op.equal t (.slice a l c) (.slice none 0 0)).run P w=.ok a.isNone w:=xD w 9999 t e a l c h
theorem Ops.eqNilS {S:World->Prop} {O:TypeId} {a:Option Addr} {k cap:Nat} (U:P.underlying T=some (.slice e)) (Z:ev E x=some (.slice a k cap)) (V:ev E y=some (.slice none 0 0)) (hb:Nat.blt d n.sz=true) (J:fresh E d=true)
  (D:Ops P ops l n ((d,.bool a.isNone) :: E) S Q):Ops P ops (⟨some d,.binOp .eql T x y O,ty,pos,af,none⟩ :: l) n E S Q:=
 Ops.val rfl rfl (λ_ w h _=>by
  have W:(eqGuard .eql T x y (.slice a k cap) (.slice none 0 0)).run P w=.ok () w:=by unfold eqGuard; rfl
  simp only[execOp,h.eval Z,h.eval V,Sem.run_bind,W,Result.andThen_ok,binOp];simp[Ab3 w T e a k cap U]) hb J D
end
variable {w0 w:World} {M:Nat→Prop} {I0 I:IH} {m m':List HA}
variable {P:Program} {n:FrK} {E:DG} {Q:Exit→Act→World→Prop} {ops:Array Oper} {l:List Oper}
variable {d ty:Nat} {pos:String} {af:Array Edge} {T e:TypeId} {x y z:Operand}
variable {α:Type} {El:EC α} {xs ys:List α} {a:Option Addr} {cap:Nat}
/-! ### Elements of own slices that lead on -/
variable {T':TypeId} {m2:List HA} {sT:TypeId} {zc:Value}
theorem OwnSl.els {b:Nat} (h:Sym w0 M I0 I m w) (U:Del m (OwnSl El T' (some ⟨b,0,none⟩) cap xs) m') {i:Nat} {v:α} (hi:xs[i]? = some v) :
   ∃ cs,El.rep I cs v∧∀ j u,cs[j]? = some u->w.cell? ⟨b,i*El.sz+j,none⟩=some u:=by
 have⟨_,ha,hk⟩:=(h.del U).get;rcases ha with⟨D,_⟩ | ⟨b',c,D,V,h3,h4,J⟩
 . cases D
 . cases D;have⟨cs,Z,O⟩:=J i v hi;exact⟨cs,Z,λj u W=>by rw[MB (hk _ _ V)]; exact O j u W⟩
theorem Ops.loEW {b o i U:Nat} {v:α} (V:∀ w,(isAgg T).run P w=.ok true w) (hS:∀ w,(sizeOf T).run P w=.ok U w) (Z:Del m (OwnSl El T' (some ⟨b,0,none⟩) cap xs) m') (hi:xs[i]? = some v)
  (hx:ev E x=some (.pointer (some ⟨b,o,none⟩))) (J:o=i*El.sz) (hl:El.sz=U) (hb:Nat.blt d n.sz=true) (hf:fresh E d=true) (k:∀ cs,El.rep I cs v->Ops P ops l n ((d,.agg cs.toArray) :: E) (Sym w0 M I0 I m) Q) :
  Ops P ops (⟨some d,.load T x,ty,pos,af,none⟩ :: l) n E (Sym w0 M I0 I m) Q:=
 Ops.valx (λu w'=>(∃ cs,u=.agg cs.toArray∧El.rep I cs v)∧Sym w0 M I0 I m w') rfl rfl (λc w hc D=>by subst J;have⟨cs,h,W⟩:=OwnSl.els D Z hi;refine⟨.agg cs.toArray,w,?_,⟨cs,rfl,h⟩,D⟩;simp[execOp,hc.eval hx,KN (P:=P) V hS (El.len h |>.trans hl) (λi' v' O=>W i' v' O)]) hb hf (λu c w J ⟨⟨cs,hu,h⟩,D⟩=>by subst hu; exact k cs h c w J D)
def aR (a:Option Addr) (cap L s:Nat):Option Addr:=if cap=L then a else a.map (·.add (L*s))
theorem OwnSl.take {k:IH} (h:(OwnSl El T a cap xs).holds I k) (H:Nat):(OwnSl El T a cap (xs.take H)).holds I k:=by
 rcases h with⟨D,J,O⟩ | ⟨b,c,D,J,O,V,U⟩
 . exact .inl ⟨D,by rw[J]; simp,O⟩
 . refine .inr ⟨b,c,D,J,by simp; omega,V,λi x _=>U i x ?_⟩;grind
theorem Sym.takeSl (h:Sym w0 M I0 I m w) {H:Nat} (J:At m (OwnSl El T a cap xs) m' (OwnSl El T a cap (xs.take H))):Sym w0 M I0 I m' w:=
 Sym.reAt J h λ_ D=>D.weaken λ_ hk=>OwnSl.take hk H
theorem Ops.takeSl (H:Nat) (D:At m (OwnSl El T a cap xs) m' (OwnSl El T a cap (xs.take H))) (k:Ops P ops l n E (Sym w0 M I0 I m') Q):Ops P ops l n E (Sym w0 M I0 I m) Q:=Ops.pre (λ_ h=>h.takeSl D) k
theorem oB (a:Option Addr) (cap s:Nat):aR a cap 0 s=a:=by
 unfold aR;split
 . rfl
 . cases a with
   | none=>rfl
   | some p=>simp only[Ah5,Ae0,Addr.add]; split <;> simp_all
theorem Ops.ownCap (D:Del m (OwnSl El T a cap xs) m') (k:xs.length<=cap->Ops P ops l n E (Sym w0 M I0 I m) Q):Ops P ops l n E (Sym w0 M I0 I m) Q:=by
 intro c w O h;refine k ?_ c w O h;have⟨_,J,_⟩:=(h.del D).get;rcases J with⟨_,V,U⟩ | ⟨b,_,_,_,U,_⟩
 all_goals grind
theorem Cod.ownCap {c:Code} (D:Del m (OwnSl El T a cap xs) m') (k:xs.length<=cap->Cod P c n E (Sym w0 M I0 I m) Q):Cod P c n E (Sym w0 M I0 I m) Q:=by
 intro c w O h;refine k ?_ c w O h;have⟨_,J,_⟩:=(h.del D).get;rcases J with⟨_,V,U⟩ | ⟨b,_,_,_,U,_⟩
 all_goals grind
theorem Ops.sliceOm {S:World->Prop} {lo hi mx:Option Operand} {q O h:IntKind} {i j t:Int} {k s:Nat} (V:P.underlying T=some (.slice e)) (hs:∀ w,(sizeOf e).run P w=.ok s w) (hx:ev E x=some (.slice a k cap))
   (hl:oev E lo=some (some (.int q i))) (hh:oev E hi=some (some (.int O j))) (W:oev E mx=some (some (.int h t))) (h0:0<=i) (h1:i<=j) (h2:j<=t) (h3:t<=cap) (hb:Nat.blt d n.sz=true) (hf:fresh E d=true)
   (U:∀ v,Ops P ops l n ((d,v) :: E) S Q):Ops P ops (⟨some d,.slice T x lo hi mx,ty,pos,af,none⟩ :: l) n E S Q:=by
 have J:∀ w,(Instr.sliceBounds true k cap (some (.int q i)) (some (.int O j)) (some (.int h t))).run P w=.ok (i.toNat,j.toNat,t.toNat) w:=by
   intro w;have g0:0<=t:=by omega
   have g1:(0:Int)<=j:=by omega
   have Z:j<=max t 0:=by omega
   have g3:i<=max j 0:=by omega
   simp[Instr.sliceBounds,Instr.sliceBound,asIntOf,h0,g0,h3,g1,Z,g3]
 refine Ops.valx (λ_ w'=>S w') rfl rfl (λ_ w D hw=>⟨.slice (if t.toNat=i.toNat then a else a.map (·.add (i.toNat*s))) (j.toNat - i.toNat) (t.toNat - i.toNat),w,?_,hw⟩) hb hf (λv=>U v)
 . simp only[execOp,D.eval hx,NO D hl,NO D hh,NO D W,Instr.sliceAt,Sem.run_bind,run_underlying V,Result.andThen_ok,Instr.slice,J,hs,Sem.run_pure]
theorem Ops.sliceO {lo hi:Option Operand} {O J:Option Value} {L H k s:Nat} (hT:P.underlying T=some (.slice e)) (hs:∀ w,(sizeOf e).run P w=.ok s w) (hx:ev E x=some (.slice a k cap)) (hk:k=xs.length)
  (hA:Del m (OwnSl El T' a cap xs) m') (hl:oev E lo=some O) (hh:oev E hi=some J) (D:O=none∧L=0∨∃ q i,O=some (.int q i)∧0<=i∧i.toNat=L)
  (V:J=none∧H=k∨∃ q i,J=some (.int q i)∧0<=i∧i.toNat=H) (h1:L<=H) (W:H<=xs.length) (hb:Nat.blt d n.sz=true) (hf:fresh E d=true)
  (Z:Ops P ops l n ((d,.slice (aR a cap L s) (H - L) (cap - L)) :: E) (Sym w0 M I0 I m) Q) :
  Ops P ops (⟨some d,.slice T x lo hi none,ty,pos,af,none⟩ :: l) n E (Sym w0 M I0 I m) Q:=by
 subst hk;refine Ops.val rfl rfl (λ_ w U h=>?_) hb hf Z;have⟨_,ha,_⟩:=(h.del hA).get
 have hc:xs.length<=cap:=by
  rcases ha with⟨_,W,h3⟩ | ⟨b,_,_,_,h3,_⟩
  all_goals grind
 have hr:=sW (P:=P) (a:=a) hT hs h1 W hc D V w;simp only[execOp,U.eval hx,NO U hl,NO U hh,AjQ,hr,Sem.run_bind,Sem.run_pure,Result.andThen_ok];rfl
theorem Ops.sliceTail {lo hi:Option Operand} {L N k s:Nat} {q W:IntKind} {i j:Int} (hT:P.underlying T=some (.slice e)) (hs:∀ w,(sizeOf e).run P w=.ok s w) (hx:ev E x=some (.slice a k cap))
  (hl:oev E lo=some (some (.int q i))) (hh:oev E hi=some (some (.int W j))) (U:0<=i) (V:i.toNat=L) (D:0<=j) (h:j.toNat=N) (h1:L<=N) (h2:N<=cap) (hb:Nat.blt d n.sz=true) (hf:fresh E d=true) {S:World->Prop}
  (k':Ops P ops l n ((d,.slice (aR a cap L s) (N - L) (cap - L)) :: E) S Q) :
  Ops P ops (⟨some d,.slice T x lo hi none,ty,pos,af,none⟩ :: l) n E S Q:=by
 refine Ops.val rfl rfl (λ_ w J _=>?_) hb hf k'
 have O:(Instr.sliceBounds true k cap (some (.int q i)) (some (.int W j)) none).run P w=.ok (L,N,cap) w:=by
  have Z:j<=(cap:Int):=by omega
  have g2:i<=(N:Int):=by omega
  simp[Instr.sliceBounds,Instr.sliceBound,asIntOf,U,D,Z,h,g2,V]
 simp only[execOp,J.eval hx,NO J hl,NO J hh,AjQ,Instr.sliceAt,Sem.run_bind,run_underlying hT,Result.andThen_ok,Instr.slice,O,hs,Sem.run_pure];rfl
section
variable {enc:α→List Value} {s:Nat} {he:∀ x,(enc x).length=s∧NN (enc x)=true}
theorem Sym.appendDel {ty':TypeId} {r:List HA} {B:Nat} {i:TypeInfo} (h:Sym w0 M I0 I (OwnSl (KO s enc he) e a cap xs :: r) w)
   (hT:P.underlying sT=some (.slice e)) (hi:P.info? e=some i) (c0:i.size=s) (hB:i.bytes=B) (hz:i.zero=some zc) (e9:zc.cells.size=s) {L H:Nat} (h1:L<=H) (h2:H<=xs.length) :
   ∃ w',(Builtin.append_ #[sT,sT] ty' #[.slice a L cap,.slice (aR a cap H s) (xs.length - H) (cap - H)]).run P w=.ok (.slice a (xs.take L++xs.drop H).length cap) w'∧Sym w0 M I0 I (OwnSl (KO s enc he) e a cap (xs.take L++xs.drop H) :: r) w':=by
 have⟨k1,ha,d1⟩:=h.get
 have hc:xs.length<=cap:=by
   rcases ha with⟨_,h2,h3⟩ | ⟨b,_,_,_,h3,_⟩
   all_goals grind
 have hR:RepSl (KO s enc he) (hp w) a cap xs:=ApP ⟨k1,(OwnSl (KO s enc he) e a cap xs).mono h.imm (IH.le.refl _) ha,d1⟩;have b0:=hR.slice h2 (Y3 _);rw[nM] at b0;have d7:Sym w (λb=>(λ_=>none:IH) b≠none) (hp w) (hp w) [] w:=Fun.start (IH.le.refl _) trivial (λ_ _ x=>nomatch x) (λ_=>.inr rfl);have⟨_,src,W,d4⟩:=Src.imm (P:=P) (m:=[]) (w0:=w) (M:=λb=>(λ_=>none:IH) b≠none) (I0:=hp w) (k:=xs.length - H) b0 (by simp);have a4:(xs.drop H).length=xs.length - H:=by simp
 have e5:RepCs (KO s enc he) I src (xs.drop H):=⟨W.1,W.2.1,W.2.2⟩;have a2:(xs.take L).length=L:=by grind
 have D:(xs.take L).length+(xs.drop H).length<=cap:=by rw[a2,a4]; omega
 have b1:Sym w0 M I0 I (OwnSl (KO s enc he) e a cap (xs.take L) :: r) w:=h.weaken λ_ hk=>OwnSl.take hk L;have⟨_,_,_⟩:=b1.get;have e4:=d4 w d7
 -- in place
 rcases ha with⟨g1,g2,O⟩ | ⟨b,c,g1,g2,O,V,g5⟩
 . subst g1 g2 O;have hL:L=0:=by simp at h2; omega
   have hH:H=0:=by simpa using h2
   subst hL hH;refine⟨w,?_,?_⟩
   . have:=MC (P:=P) (w:=w) (w':=w) (ty':=ty') (a:=none) (cap:=0) (k:=0) (kv:=0) (cv:=0) (bv:=none) (src:=#[]) (s:=s) hT hT (λw=>by simp[sizeOf,typeInfo,hi,c0]) (by omega) (by simp[Builtin.firstCells]) (λp hp=>by cases hp) (λ_=>rfl);simpa[aR] using this
   . simpa using h
 . subst g1;have d6:∀ w,(sizeOf e).run P w=.ok s w:=λw=>by simp[sizeOf,typeInfo,hi,c0]
   have⟨hb,d9,hn,q,⟨q1,q2,hd',hl1,hl2,U,hs'⟩,hkk,hdj,hm⟩:=b1;rcases U with⟨a6,_⟩ | ⟨b',J,a6,c1,e6,a7,c2⟩
   . cases a6
   cases a6;have a8:Sym w0 M I0 I (Fw.pto b (.cells J e (0,0)) :: r) w:=⟨hb,d9,hn,q,⟨q1,q2,hd',hl1,hl2,c1,hs'⟩,hkk,hdj,hm⟩;have e2:L*s+(xs.drop H).length*s<=cap*s:=by rw[<-WB]; exact W9 _ (by rw[a2] at D; exact D)
   have d5:src.length=(xs.drop H).length*s:=e5.1;have hr:=run_storeCells_at (P:=P) b (L*s) e src 0 J w a8.pto (by rw[d5]; show _<=J.size; rw[a7]; exact e2) (X0 W.2.2);have e1:(⟨b,0,none⟩:Addr).add (L*s)=⟨b,L*s,none⟩:=by unfold Addr.add; split <;> simp_all
   have a9:=e4 w rfl;rw[a4] at a9;refine⟨w.setRow b (J.toList.take (L*s+0)++src++J.toList.drop (L*s+0+src.length)).toArray,?_,?_⟩
   . have:=MC (P:=P) (w:=w) (ty':=ty') (a:=some ⟨b,0,none⟩) (cap:=cap) (k:=L) (kv:=xs.length - H) (cv:=cap - H) (bv:=aR (some ⟨b,0,none⟩) cap H s) (src:=src.toArray) (s:=s) hT hT d6 (by rw[a2,a4] at D; exact D) a9 (λp hp=>by cases hp; rw[e1]; exact hr) (λh=>by cases h);grind
   . have d8:=a8.upd (o':=.cells (J.toList.take (L*s+0)++src++J.toList.drop (L*s+0+src.length)).toArray e (0,0)) (w':=w.setRow b _) rfl rfl rfl rfl (by simp[World.setRow]) (λq U=>Fw.setRow_other U) (setRow_heap w b _ _ e _ a8.pto);refine d8.weaken λq U=>.inr ⟨b,_,rfl,U,by rw[kC]; exact D,?_,?_⟩
     . have a5:J.size=cap*s:=a7;grind
     . intro Z x2 a3;simp only[eY,AdO];have a5:J.size=cap*s:=a7;rcases ZZ Z L with h6 | h6
       . rw[kA (by omega)] at a3;have⟨cs,O,V⟩:=c2 Z x2 a3;refine⟨cs,O,λj u hj=>?_⟩
         have e8:j<s:=by have h0:cs.length=s:=(KO s enc he).len O;grind
         have d3:(Z+1)*s<=L*s:=W9 _ h6;rw[WB,xB] at d3;have:=V j u hj;rw[<-At3] at this;have f0:J.toList[Z*s+j]? = some u:=this;have d2:L*s<=J.toList.length:=by simp[a5]; omega
         show(_++_++_)[Z*s+j]? = _;grind
       . rw[wW (by omega)] at a3;have⟨cs,O,V⟩:=W.2.1 _ x2 a3;refine⟨cs,O,λj u hj=>?_⟩;have h7:=V j u hj;have h8:=(List.getElem?_eq_some_iff.1 h7).1;rw[a2] at h7 h8;have e3:Z*s=L*s+(Z - L)*s:=by rw[<-WB]; congr 1; omega
         have d0:src[(Z - L)*s+j]? = some u:=h7;have e7:(Z - L)*s+j<src.length:=h8;have d2:L*s<=J.toList.length:=by simp[a5]; omega
         show(_++_++_)[Z*s+j]? = _;rw[nL,wW (by rw[QY]; omega),kA (by rw[QY]; omega),<-d0];grind
theorem Ops.appendDel {i:TypeInfo} {h:Array TypeId} {L H:Nat} (B:Nat) (hA:At m (OwnSl (KO s enc he) e a cap xs) m' (OwnSl (KO s enc he) e a cap (xs.take L++xs.drop H))) (hT:P.underlying sT=some (.slice e)) (hi:P.info? e=some i)
  (a5:i.size=s) (hB:i.bytes=B) (hz:i.zero=some zc) (a4:zc.cells.size=s) (J:h = #[sT,sT]) {a1:Option Addr} {W D Z:Nat} (hx:ev E x=some (.slice a1 W D)) (hy:ev E y=some (.slice (aR a cap H s) (Z - H) (cap - H)))
  (a6:a1=a) (a7:W=L) (a2:D=cap) (a3:Z=xs.length) (h1:L<=H) (h2:H<=xs.length) (hb:Nat.blt d n.sz=true) (hf:fresh E d=true)
  (k':Ops P ops l n ((d,.slice a (xs.take L++xs.drop H).length cap) :: E) (Sym w0 M I0 I m') Q) :
  Ops P ops (⟨some d,.call ⟨.builtin .append,#[x,y],h⟩,ty,pos,af,none⟩ :: l) n E (Sym w0 M I0 I m) Q:=
 Ops.valx (λv w'=>v=.slice a (xs.take L++xs.drop H).length cap∧Sym w0 M I0 I m' w') rfl rfl
  (λc w O V=>by
   subst a6 a7 a2 a3;have⟨_,g2,g3⟩:=hA.del;have⟨w',hr,U⟩:=Sym.appendDel (P:=P) (ty':=ty) (V.del g2) hT hi a5 hB hz a4 h1 h2;subst J;refine⟨_,w',?_,rfl,U.undel g3⟩;have e:(#[x,y].map c.eval) = #[.slice a1 W D,.slice (aR a1 D H s) (xs.length - H) (D - H)]:=by simp[O.eval hx,O.eval hy]
   simp only[execOp,resolve,e,Sem.run_bind,Sem.run_pure,Result.andThen_ok,invoke,builtin,hr]) hb hf
  (λv c w O ⟨hv,V⟩=>by subst hv; exact k' c w O V)
end
theorem Ops.clearTail {i:TypeInfo} {a7:Array TypeId} {L N:Nat} (hA:Del m (OwnSl El e a cap xs) m') (hT:P.underlying sT=some (.slice e)) (hi:P.info? e=some i)
    (d6:i.size=El.sz) (hz:i.zero=some zc) (d0:zc.cells.size=El.sz) (c2:NN zc.cells.toList=true) (a3:a7[0]? = some sT) (hx:ev E x=some (.slice (aR a cap L El.sz) (N - L) (cap - L)))
    (h1:L=xs.length) (h2:N<=cap) (k':Ops P ops l n E (Sym w0 M I0 I m) Q) :
    Ops P ops (⟨none,.call ⟨.builtin .clear,#[x],a7⟩,ty,pos,af,none⟩ :: l) n E (Sym w0 M I0 I m) Q:=
  Ops.val0 rfl rfl (λc w ho hs=>by
    have e0:(#[x].map c.eval) = #[.slice (aR a cap L El.sz) (N - L) (cap - L)]:=by simp[ho.eval hx]
    have d1:∀ w,(zeroValue e).run P w=.ok zc w:=λw=>by simp[zeroValue,typeInfo,hi,hz]
    have c0:=hs.del hA;have⟨hb,d2,hn,q,⟨q1,q2,hd',hl1,hl2,O,hs'⟩,hkk,hdj,hm⟩:=c0;rcases O with⟨U,V,W⟩ | ⟨b,J,U,V,W,Z,g5⟩
    . subst U V W;refine⟨.tuple #[],w,?_,hs⟩;have hN:N - L=0:=by omega
      have D:aR none 0 L El.sz=none:=by unfold aR; split <;> rfl
      simp[execOp,resolve,e0,invoke,builtin,Builtin.clear_,a3,run_underlying hT,D]
    . subst U;by_cases hN:N - L=0
      . refine⟨.tuple #[],w,?_,hs⟩;rw[hN] at e0;have D:∃ ad,aR (some ⟨b,0,none⟩) cap L El.sz=some ad:=by unfold aR; split <;> exact⟨_,rfl⟩
        have⟨ad,D⟩:=D;rw[D] at e0;simp[execOp,resolve,e0,invoke,builtin,Builtin.clear_,a3,run_underlying hT]
      . have D:aR (some ⟨b,0,none⟩) cap L El.sz=some ⟨b,L*El.sz,none⟩:=by unfold aR;rw[if_neg (by omega)];simp only[Ah5,Addr.add]; split <;> simp_all
        rw[D] at e0;have a2:Sym w0 M I0 I (Fw.pto b (.cells J e (0,0)) :: m') w:=⟨hb,d2,hn,q,⟨q1,q2,hd',hl1,hl2,V,hs'⟩,hkk,hdj,hm⟩;have d7:L*El.sz+(N - L)*El.sz<=cap*El.sz:=by rw[<-WB]; exact W9 _ (by omega)
        have a6:(Builtin.zeroCells zc.cells (N - L)).toList.length=(N - L)*El.sz:=by simp[AaX _ d0]
        have a8:∀ v∈(Builtin.zeroCells zc.cells (N - L)).toList,one v=true:=by
          intro v D;simp only[Builtin.zeroCells,Array.toList_map,gW,Array.toList_range,AjU] at D;obtain⟨i',a9,rfl⟩:=D
          have d3 : 0 < zc.cells.size := by
            rcases aL zc.cells.size with h | h; · simp[h] at a9
            . exact h
          have b0:i' % zc.cells.size<zc.cells.size:=Ae1 _ d3;rw[getElem!_pos zc.cells _ b0];exact X0 c2 _ (by simp)
        have hr:=run_storeCells_at (P:=P) b (L*El.sz) e (Builtin.zeroCells zc.cells (N - L)).toList 0 J w a2.pto (by rw[a6,Z]; omega) a8;refine⟨.tuple #[],w.setRow b (J.toList.take (L*El.sz+0)++(Builtin.zeroCells zc.cells (N - L)).toList++J.toList.drop (L*El.sz+0+(Builtin.zeroCells zc.cells (N - L)).toList.length)).toArray,?_,?_⟩
        . have a4:(storeCells ⟨b,L*El.sz,none⟩ (Builtin.zeroCells zc.cells (N - L)).toList).run P w=.ok () (w.setRow b (J.toList.take (L*El.sz+0)++(Builtin.zeroCells zc.cells (N - L)).toList++J.toList.drop (L*El.sz+0+(Builtin.zeroCells zc.cells (N - L)).toList.length)).toArray):=hr
          cases hk:N - L with
          | zero=>exact absurd hk hN
          | succ k=>
            rw[hk] at a4 e0;simp only[execOp,resolve,e0,invoke,builtin,Builtin.clear_,Sem.run_bind,Sem.run_pure,Result.andThen_ok,a3,AdO,AoQ,run_underlying hT,d1,a4]
        . have c1:=a2.upd (o':=.cells (J.toList.take (L*El.sz+0)++(Builtin.zeroCells zc.cells (N - L)).toList++J.toList.drop (L*El.sz+0+(Builtin.zeroCells zc.cells (N - L)).toList.length)).toArray e (0,0)) (w':=w.setRow b _) rfl rfl rfl rfl (by simp[World.setRow]) (λq O=>Fw.setRow_other O) (setRow_heap w b _ _ e _ a2.pto);refine(Sym.weaken c1 (B:=OwnSl El e (some ⟨b,0,none⟩) cap xs) λq O=>.inr ⟨b,_,rfl,O,W,?_,?_⟩).undel hA
          . simp only[Ap3,kC,QY,AdT,Ah2,a6,Z]; omega
          . intro i2 x2 a5;have⟨cs,u1,u2⟩:=g5 i2 x2 a5;refine⟨cs,u1,λj u hj=>?_⟩;have d4:=(List.getElem?_eq_some_iff.1 a5).1;have d5:j<El.sz:=by rw[<-El.len u1]; exact(List.getElem?_eq_some_iff.1 hj).1
            have b1:(i2+1)*El.sz<=L*El.sz:=W9 _ (by omega);rw[WB,xB] at b1;have:=u2 j u hj;rw[<-At3] at this;simp only[eY,AdO];rw[nL,kA (by rw[QY]; simp only[Ah2,Z]; omega),wZ,if_pos (by omega),this]) k'
theorem Ops.sliceT {hi:Option Operand} {H k s:Nat} {q:IntKind} {i:Int} (h:P.underlying T=some (.slice e)) (hs:∀ w,(sizeOf e).run P w=.ok s w) (U:ev E x=some (.slice a k cap)) (hk:k=xs.length)
  (O:Del m (OwnSl El T' a cap xs) m') (a2:At m (OwnSl El T' a cap xs) m2 (OwnSl El T' a cap (xs.take H))) (V:oev E hi=some (some (.int q i))) (J:0<=i) (D:i.toNat=H) (W:H<=xs.length)
  (Z:Nat.blt d n.sz=true) (hf:fresh E d=true) (k':Ops P ops l n ((d,.slice a (xs.take H).length cap) :: E) (Sym w0 M I0 I m2) Q) :
  Ops P ops (⟨some d,.slice T x none hi none,ty,pos,af,none⟩ :: l) n E (Sym w0 M I0 I m) Q:=by
 refine Ops.sliceO (L:=0) (H:=H) (s:=s) h hs U hk O rfl V (.inl ⟨rfl,rfl⟩) (.inr ⟨_,_,rfl,J,D⟩) (sU _) W Z hf ?_;grind[oB,Ops.takeSl]
@[reducible] def kN (sz:Nat):Type:={cs:List Value // cs.length=sz∧NN cs=true}
@[reducible] def AeC (sz:Nat):EC (kN sz):=KO sz Subtype.val λx=>x.2
structure RepR (El:EC α) (I:IH) (css:List (kN El.sz)) (xs:List α):Prop where
 len:css.length=xs.length
 all:∀ (i:Nat) (x:α),xs[i]? = some x→∃ c:kN El.sz,css[i]? = some c∧El.rep I c.1 x
theorem RepR.mono {J:IH} {D:List (kN El.sz)} (h:RepR El I D xs) (O:I.le J):RepR El J D xs:=⟨h.len,λi x V=>let ⟨c,U,W⟩:=h.all i x V; ⟨c,U,El.mono O W⟩⟩
theorem RepR.get {D:List (kN El.sz)} (h:RepR El I D xs) {i:Nat} {x:α} (U:xs[i]? = some x):∃ c O,D[i]? = some ⟨c,O⟩∧El.rep I c x:=
 let ⟨c,J,V⟩:=h.all i x U; ⟨c.1,c.2,J,V⟩
theorem RepR.set {D:List (kN El.sz)} (h:RepR El I D xs) (i:Nat) {x:α} {cs:List Value} (U:El.rep I cs x) (hp:cs.length=El.sz∧NN cs=true):RepR El I (D.set i ⟨cs,hp⟩) (xs.set i x):=by
 refine⟨by simp only[QX]; exact h.len,λj y J=>?_⟩;by_cases e:i=j
 . subst e;have O:i<xs.length:=by grind
   rw[AmB O] at J; cases J;exact⟨⟨cs,hp⟩,AmB (by have:=h.len; omega),U⟩
 . rw[AaS e] at J;rw[AaS e];exact h.all j y J
theorem AxK {sz:Nat} {R:Nat->α->kN sz->Prop}:∀ {xs:List α},(∀ (i:Nat) (x:α),xs[i]? = some x->∃ c,R i x c)->∃ D:List (kN sz),D.length=xs.length∧∀ (i:Nat) (x:α),xs[i]? = some x->∃ c,D[i]? = some c∧R i x c:=by
 intro xs
 induction xs generalizing R with
 | nil=>simp_all
 | cons O xs W=>
  intro h;have⟨V,_⟩:=h 0 O rfl;have⟨D,U,_⟩:=W (R:=λi=>R (i+1)) λi x J=>h (i+1) x (by simpa using J);refine⟨V :: D,by simp[U],λi x J=>?_⟩;grind
theorem Sym.openS (a2:Sym w0 M I0 I (OwnSl El T a cap xs :: m) w):∃ D:List (kN El.sz),RepR El I D xs∧Sym w0 M I0 I (OwnSl (AeC El.sz) T a cap D :: m) w:=by
 obtain ⟨hb,hi,hn,k,⟨h1,h2,hd',hl1,hl2,ha,hs'⟩,hk,hdj,hm⟩:=a2
 rcases ha with ⟨h,V,g3⟩ | ⟨b,J,h,V,g3,g4,g5⟩
 · subst V
   exact ⟨[],⟨rfl,fun i x O=>by simp at O⟩,hb,hi,hn,k,⟨h1,h2,hd',hl1,hl2,.inl ⟨h,rfl,g3⟩,hs'⟩,hk,hdj,hm⟩
 · obtain ⟨D,e1,e2⟩:=AxK (sz:=El.sz) (R:=fun i x c=>El.rep I c.1 x∧∀ (j:Nat) (v:Value),c.1[j]? = some v→J[i*El.sz+j]? = some v) fun i x O=>by
    obtain ⟨cs,Z,f2⟩:=g5 i x O
    exact ⟨⟨cs,El.len Z,El.one Z⟩,Z,f2⟩
   refine ⟨D,⟨e1,fun i x O=>let ⟨c,U,W⟩:=e2 i x O; ⟨c,U,W.1⟩⟩,hb,hi,hn,k,⟨h1,h2,hd',hl1,hl2,.inr ⟨b,J,h,V,by omega,g4,fun i c hc=>?_⟩,hs'⟩,hk,hdj,hm⟩
   have a3:=(List.getElem?_eq_some_iff.1 hc).1
   obtain ⟨_,U,W⟩:=e2 i (xs[i]'(by omega)) (yQ _)
   rw [hc] at U; cases U
   exact ⟨c.1,rfl,W.2⟩
theorem Sym.closeS {D:List (kN El.sz)} (U:RepR El I D xs) (h:Sym w0 M I0 I (OwnSl (AeC El.sz) T a cap D :: m) w):Sym w0 M I0 I (OwnSl El T a cap xs :: m) w:=by
 have⟨hb,hi,hn,k,⟨h1,h2,hd',hl1,hl2,ha,hs'⟩,hk,hdj,hm⟩:=h;refine⟨hb,hi,hn,k,⟨h1,h2,hd',hl1,hl2,?_,hs'⟩,hk,hdj,hm⟩;rcases ha with⟨O,J,W⟩ | ⟨b,V,O,J,W,Z,g5⟩
 . have:=U.len; rw[J] at this;exact .inl ⟨O,AvU this.symm,W⟩
 . refine .inr ⟨b,V,O,J,by have:=U.len; omega,Z,λi x hx=>?_⟩;have⟨c,q1,q2⟩:=U.all i x hx;have⟨_,q3,q4⟩:=g5 i c q1;cases q3;exact⟨c.1,q2,q4⟩
theorem Ops.openS (J:Del m (OwnSl El T a cap xs) m2) (k:∀ h:List (kN El.sz),RepR El I h xs->Ops P ops l n E (Sym w0 M I0 I (OwnSl (AeC El.sz) T a cap h :: m2)) Q):Ops P ops l n E (Sym w0 M I0 I m) Q:=by intro c w V U;have⟨h,D,O⟩:=(U.del J).openS;exact k h D c w V O
theorem Cod.openS {c:Code} (J:Del m (OwnSl El T a cap xs) m2) (k:∀ h:List (kN El.sz),RepR El I h xs->Cod P c n E (Sym w0 M I0 I (OwnSl (AeC El.sz) T a cap h :: m2)) Q):Cod P c n E (Sym w0 M I0 I m) Q:=by intro c w V U;have⟨h,D,O⟩:=(U.del J).openS;exact k h D c w V O
theorem Ops.closeS {h:List (kN El.sz)} (D:Del m (OwnSl (AeC El.sz) T a cap h) m2) (O:RepR El I h xs) (k:Ops P ops l n E (Sym w0 M I0 I (OwnSl El T a cap xs :: m2)) Q):Ops P ops l n E (Sym w0 M I0 I m) Q:=
 Ops.pre (λ_ J=>(J.del D).closeS O) k
end Go.Fw
