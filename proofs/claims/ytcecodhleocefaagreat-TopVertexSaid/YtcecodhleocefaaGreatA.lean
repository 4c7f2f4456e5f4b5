import Derived.Below
import Derived.Tactics
import Derived.Laws.NewBlocks
import Derived.Scope
import Derived.OrdersIn
import Derived.TacticsIn
import Derived.Laws.Entries
import Derived.Laws.StructEq
import Derived.Laws.CopyRow
import Derived.RangeFuncLeaves
import Derived.RangeFuncRecord
import Derived.MapKept
import Derived.Maps.RangeRun
import Derived.ChangeKeysEq
set_option linter.defProp false
set_option linter.unusedSectionVars false
set_option linter.unusedSimpArgs false
set_option linter.unusedVariables false
namespace Go.Fw
open Go Go.RowKit
section
variable {id:Nat} {σ:Type}
def eX:=@List.take_succ_eq_append_getElem
def PW:=@List.getElem_mem
def cD:=@List.mem_cons_of_mem
def YZ:=@Int.toNat_natCast
def cB:=@List.length_set
def lL:=@List.append_assoc
def iE:=@List.map_append
def uM:=@Nat.mul_le_mul_right
def tM:=@List.getElem_of_mem
def Z0:=@Nat.le_refl
def X2:=@List.Pairwise.filter
def LM:=@Nat.mul_zero
def RV:=@List.take_length
def gJ:=@List.getElem?_eq_getElem
def lM:=@Array.getD_eq_getD_getElem?
def OU:=@List.map_cons
def X3:=@List.pairwise_map
def VK:=@List.length_take
def lN:=@List.getElem?_append_left
def bL:=@List.length_append
def sU:=@List.getD_eq_getElem?_getD
def T7:=@List.mem_cons
def cE:=@Bool.and_eq_true
def jF:=@Nat.eq_zero_or_pos
def bM:=@List.range_succ
def jG:=@List.filter_append
def yK:=@List.perm_ext_iff_of_nodup
def yL:=@List.getElem?_append_right
def cF:=@List.foldl_cons
def lO:=@List.mem_singleton
def gK:=@List.length_map
def uN:=@List.length_filter_le
def Z1:=@Nat.lt_or_ge
def XT:=@Nat.add_mul
def lP:=@List.append_nil
def pH:=@List.cons_append
def gL:=@List.mem_map
def gM:=@Nat.add_zero
def gN:=@Nat.le_trans
def sV:=@Option.getD_some
def yM:=@List.map_congr_left
def uO:=@List.Pairwise.imp
def sW:=@List.mem_append
def yN:=@List.getElem?_take
def jH:=@Nat.zero_add
def uP:=@List.length_cons
def AhB:=@Array.getElem?_eq_getElem
def Ae6:=@List.getElem?_toArray
def AhC:=@List.Pairwise.imp_of_mem
def Ae7:=@List.length_singleton
def uQ:=@List.nodup_cons
def AbS:=@Bool.false_eq_true
def pI:=@Nat.mul_comm
def AbT:=@List.getElem_take
def AlT:=@List.pairwise_iff_getElem
def AhD:=@Nat.eq_of_beq_eq_true
def Ae8:=@List.pairwise_cons
def Ao5:=@Array.getElem?_setIfInBounds
def AhE:=@List.getElem?_set_ne
def Ae9:=@List.foldl_append
def AeA:=@Option.some.injEq
def AbU:=@Option.some.inj
def AhF:=@Array.length_toList
def AlU:=@List.getElem?_set_self
def Ao6:=@Int.tmod_eq_emod_of_nonneg
def AeB:=@Nat.div_eq_of_lt
def AlV:=@List.perm_append_comm
def Ao7:=@List.drop_eq_getElem_cons
def Ao8:=@List.eraseIdx_cons_succ
def Ao9:=@List.getElem?_cons_zero
def AoA:=@List.pairwise_lt_range
def AoB:=@List.Perm.append_left
def AhG:=@Nat.mul_add_div
def AhH:=@Nat.div_add_mod
def AhI:=@Option.map_some
def AoC:=@List.filterMap_append
def AsX:=@Int.fdiv_eq_ediv_of_nonneg
def AsY:=@List.exists_cons_of_ne_nil
def AsZ:=@Int.tdiv_eq_ediv_of_nonneg
def At0:=@Classical.byContradiction
def AbV:=@Nat.one_mul
def AhJ:=@List.Perm.cons
def AhK:=@Nat.mul_le_mul
def At1:=@List.length_filterMap_le
def AlW:=@List.length_drop
def AlX:=@List.perm_middle
def AeC:=@List.map_map
def AoD:=@List.mem_map_of_mem
def AlY:=@Bool.or_eq_true
def AoE:=@List.getElem?_drop
def AlZ:=@List.mem_filter
def AvY:=@List.eq_nil_of_length_eq_zero
def AoF:=@List.length_range
def At2:=@List.length_replicate
def At3:=@List.getElem?_eq_none
def At4:=@List.take_append_drop
def At5:=@Array.getElem?_toList
def AhL:=@Int.lt_or_le
def AoG:=@List.any_eq_true
def AoH:=@List.filter_cons
def AjC:=@List.mem_of_mem_take
def AjD:=@Decidable.of_not_not
def AjE:=@List.pairwise_append
def rH:=@Nat.mod_lt
def Aa5:=@Nat.add_assoc
def AoI:=@List.nodup_iff_pairwise_ne
def AjF:=@List.filterMap_cons
def AjG:=@Nat.testBit_two_pow
def AeD:=@Int.natCast_mul
def AeE:=@List.cons.injEq
def Aa6:=@Classical.em
def AoJ:=@List.mem_of_mem_eraseIdx
def AjH:=@Array.foldl_toList
def Aa7:=@Nat.add_comm
def AjI:=@Int.emod_lt_of_pos
def AjJ:=@Nat.lt_of_lt_of_le
def Aa8:=@Int.le_of_lt
def AoK:=@List.getElem?_cons_succ
def AjK:=@List.ext_getElem?
def AjL:=@List.getElem_drop
def Aa9:=@Nat.zero_le
def AoL:=@List.take_of_length_le
def AeF:=@Prod.mk.injEq
def AjM:=@Nat.mod_eq_of_lt
def AjN:=@List.ext_getElem
def AoM:=@Array.getElem?_modify
def AjO:=@Int.ediv_nonneg
def AeG:=@Nat.succ_mul
def AjP:=@Int.emod_nonneg
def AoN:=@Nat.div_lt_of_lt_mul
def AjQ:=@List.nil_append
def AjR:=@Option.map_none
def AoO:=@List.mem_of_getElem?
def AeH:=@Nat.zero_mul
def Av5:=@List.drop_append_of_le_length
def Av6:=@Int.mul_le_mul_of_nonneg_left
def AoP:=@Array.toList_zipIdx
def AjS:=@List.foldl_map
def AjT:=@Int.mul_le_mul
def AjU:=@List.mem_range
def AjV:=@Int.mul_nonneg
def Av7:=@Array.extract_eq_self_of_le
def AoQ:=@Int.natCast_nonneg
def AoR:=@Nat.pos_of_ne_zero
def AoS:=@List.set_cons_succ
def Av8:=@Array.getElem?_append_left
def AoT:=@List.size_toArray
def Av9:=@Array.mapM_eq_mapM_toList
def AjW:=@Nat.sub_zero
def AoU:=@Int.ediv_le_self
def AoV:=@List.not_mem_nil
def AjX:=@List.map_nil
def AoW:=@List.Perm.nodup
def AoX:=@List.filter_map
def AoY:=@Nat.mul_add_mod
def AjY:=@Int.pow_pos
def AjZ:=@Nat.le_succ
def AoZ:=@List.foldl_nil
def Ap0:=@List.mapM_cons
def Ap1:=@List.nodup_nil
/-! ### Sparse frames -/
abbrev DH:=List (Nat×Value)
def look:DH->Nat->Option Value
 | [],_=>none
 | p :: E,t=>bif Nat.beq p.1 t then some p.2 else look E t
def fresh:DH->Nat->Bool
 | [],_=>true
 | p :: E,t=>bif Nat.beq p.1 t then false else fresh E t
def EnvOk:DH->Act->Prop
 | [],_=>True
 | p :: E,a=>a.tmps[p.1]? = some p.2∧EnvOk E a
structure FrK where
 sz:Nat
 marks:List Nat
 round:Option Nat
def mkM (r:Nat):Deferred:={ target:=.collected r,args:=#[] }
abbrev FrK.defs (n:FrK):List Deferred:=n.marks.map mkM
def X4 (n:FrK):Fence:={ fn:=λ_=>True,depth:=none,alive:=false,round:=n.round }
structure Ok (n:FrK) (E:DH) (a:Act):Prop where
 size:a.tmps.size=n.sz
 defers:a.defers=n.defs
 env:EnvOk E a
def ev (E:DH):Operand->Option Value
 | .tmp t=>look E t
 | .const c=>some c
 | .global g=>some (.pointer (some ⟨g,0,none⟩))
 | .func f=>some (.func (.func f) #[] #[])
theorem EnvOk.look {E:DH} {a:Act} (h:EnvOk E a) {t:Nat} {v:Value} (d:look E t=some v):a.tmps[t]? = some v:=by
 induction E with
 | nil=>simp[Fw.look] at d
 | cons p E J=>
  have⟨_,_⟩:=h;simp only[Fw.look] at d
  cases D:Nat.beq p.1 t with
  | true=>simp_all
  | false=>grind
theorem Ok.eval {n:FrK} {E:DH} {a:Act} (h:Ok n E a) {x:Operand} {v:Value} (d:ev E x=some v):a.eval x=v:=by
 cases x with
 | tmp t=>
  have:=h.env.look d;simp only[Act.eval,lM,this,sV]
 | const c=>exact AbU d
 | global g=>exact AbU d
 | func f=>exact AbU d
theorem EnvOk.put {E:DH} {a:Act} (h:EnvOk E a) {d:Nat} (D:fresh E d=true) (v:Value):EnvOk E (a.put (some d) v):=by
 induction E with
 | nil=>trivial
 | cons p E U=>
  have⟨O,V⟩:=h;simp only[fresh] at D
  cases W:Nat.beq p.1 d with
  | true=>rw[W] at D; simp at D
  | false=>
   rw[W] at D;refine⟨?_,U V D⟩;have J:¬d=p.1:=λe=>by rw[e,Nat.beq_refl] at W; exact absurd W (by simp)
   simp only[Act.put,Ao5,if_neg J,O]
theorem Ok.put {n:FrK} {E:DH} {a:Act} (h:Ok n E a) {d:Nat} (J:Nat.blt d n.sz=true) (D:fresh E d=true) (v:Value):Ok n ((d,v) :: E) (a.put (some d) v):=by
 refine⟨by simp[Act.put,h.size],by simp[Act.put,h.defers],?_,h.env.put D v⟩;have:d<a.tmps.size:=by rw[h.size]; simp_all
 simp[Act.put,this]
theorem EnvOk.defers {E:DH} {a:Act} (h:EnvOk E a) (D:List Deferred):EnvOk E { a with defers:=D }:=by
 induction E with
 | nil=>trivial
 | cons p E d=>exact⟨h.1,d h.2⟩
def Sub:DH->DH->Prop
 | [],_=>True
 | p :: E',E=>look E p.1=some p.2∧Sub E' E
theorem Ok.sub {n:FrK} {E E':DH} {a:Act} (h:Ok n E a) (d:Sub E' E):Ok n E' a:=by
 refine⟨h.size,h.defers,?_⟩
 induction E' with
 | nil=>trivial
 | cons p E' D=>exact⟨h.env.look d.1,D d.2⟩
abbrev IH:=Nat->Option Obj
def IH.le (I J:IH):Prop:=∀ b o,I b=some o->J b=some o
theorem IH.le.refl (I:IH):I.le I:=λ_ _ h=>h
theorem IH.le.trans {I J K:IH} (h:I.le J) (k:J.le K):I.le K:=λb o x=>k b o (h b o x)
def hp (w:World):IH:=λb=>w.heap[b]?
def IH.disj (I J:IH):Prop:=∀ b,I b=none∨J b=none
theorem IH.disj.mono {I J d D:IH} (h:I.disj J) (hi:d.le I) (O:D.le J):d.disj D:=λb=>by
 rcases h b with h | h
 . left; cases h':d b with
   | none=>rfl
   | some o=>rw[hi b o h'] at h; cases h
 . right; cases h':D b with
   | none=>rfl
   | some o=>rw[O b o h'] at h; cases h
open Classical in
noncomputable def IH.union (I J:IH):IH:=λb=>match I b with | some o=>some o | none=>J b
theorem IH.le_union_left (I J:IH):I.le (I.union J):=λ_ _ h=>by simp[IH.union,h]
theorem IH.le_union_right {I J:IH} (D:I.disj J):J.le (I.union J):=λb _ h=>by
 rcases D b with d | d
 . simp[IH.union,d,h]
 . rw[d] at h; cases h
theorem IH.union_le {I J K:IH} (h:I.le K) (k:J.le K):(I.union J).le K:=λb o x=>by
 simp only[IH.union] at x
 cases hi:I b with
 | some p=>rw[hi] at x; exact h b o (by rw[hi]; exact x)
 | none=>rw[hi] at x; exact k b o x
theorem IH.union_none {I J:IH} {b:Nat} (h:I.union J b≠none):I b≠none∨J b≠none:=by simp only[IH.union] at h;grind
structure HA where
 holds:IH→IH→Prop
 mono:∀ {I J h k:IH},I.le J→h.le k→holds I h→holds J k
def OQ:List HA->IH->IH->Prop
 | [],_,_=>True
 | A :: l,I,h=>∃ d D,d.disj D∧d.le h∧D.le h∧A.holds I d∧OQ l I D
theorem MI {l:List HA} {I J h k:IH} (V:I.le J) (O:h.le k) (W:OQ l I h):OQ l J k:=by
 cases l with
 | nil=>trivial
 | cons A l=>
  obtain ⟨h1,U,hd,d,D,Z,W⟩:=W
  refine ⟨h1,U,hd,d.trans O,D.trans O,A.mono V (IH.le.refl _) Z,?_⟩
  clear Z d D hd O
  induction l generalizing U with
  | nil=>trivial
  | cons B l ih=>
   obtain ⟨h3,h4,a5,a2,a6,hb,a4⟩:=W
   exact ⟨h3,h4,a5,a2,a6,B.mono V (IH.le.refl _) hb,ih _ a4⟩
theorem O9 {l m:List HA} {I h:IH}:OQ (l++m) I h↔∃ V U,V.disj U∧V.le h∧U.le h∧OQ l I V∧OQ m I U:=by
 induction l generalizing h with
 | nil=>
  constructor
  . intro O; exact⟨λ_=>none,h,(λ_=>.inl rfl),(λ_ _ x=>nomatch x),IH.le.refl _,trivial,O⟩
  . rintro⟨V,U,W,a2,J,_,O⟩; exact MI (IH.le.refl _) J O
 | cons A l ih=>
  constructor
  . rintro⟨V,U,W,a2,J,ha,O⟩;have⟨h3,h4,a4,d,D,a5,a6⟩:=ih.1 O;refine⟨V.union h3,h4,?_,IH.union_le a2 (d.trans J),D.trans J,⟨V,h3,W.mono (IH.le.refl _) d,IH.le_union_left _ _,IH.le_union_right (W.mono (IH.le.refl _) d),ha,a5⟩,a6⟩;intro b;rcases a4 b with h | h
    . rcases(W.mono (IH.le.refl _) D) b with Z | Z
      . left; simp[IH.union,h,Z]
      . exact .inr Z
    . exact .inr h
  . rintro⟨V,U,W,a2,J,⟨h3,h4,a4,d,D,ha,O⟩,hm⟩;refine⟨h3,h4.union U,?_,d.trans a2,IH.union_le (D.trans a2) J,ha,ih.2 ⟨h4,U,W.mono D (IH.le.refl _),IH.le_union_left _ _,IH.le_union_right (W.mono D (IH.le.refl _)),O,hm⟩⟩;intro b;rcases a4 b with h | h
    . exact .inl h
    . rcases(W.mono d (IH.le.refl U)) b with Z | Z
      . exact .inl Z
      . right; simp[IH.union,h,Z]
structure At6 (w0:World) (M:Nat→Prop) (w:World):Prop where
 os:w.os=w0.os
 tape:w.tape=w0.tape
 output:w.output=w0.output
 drawn:w0.drawn≤w.drawn
 size:w0.heap.size≤w.heap.size
 block:∀ b,b<w0.heap.size→¬M b→w.heap[b]? = w0.heap[b]?
structure Sym (w0:World) (M:Nat→Prop) (I0 I:IH) (l:List HA) (w:World):Prop where
 base:At6 w0 M w
 imm:I.le (hp w)
 new:∀ b,I b≠none→I0 b≠none∨M b∨w0.heap.size≤b
 own:∃ h,OQ l I h∧h.le (hp w)∧I.disj h∧∀ b,h b≠none→M b∨w0.heap.size≤b
variable {w0 w:World} {M:Nat→Prop} {I0 I:IH} {l:List HA}
theorem U2 {b:Nat} {o:Obj} (h:hp w b=some o):b<w.heap.size:=by grind[hp]
theorem AhM {h:IH} (d:h.le (hp w)) {b:Nat} (D:h b≠none):b<w.heap.size:=by
 cases e:h b with
 | none=>exact absurd e D
 | some o=>exact U2 (d b o e)
def pto (b:Nat) (o:Obj):HA where
 holds _ h:=h b=some o
 mono:=λ_ hh h=>hh _ _ h
def GX (b:Nat) (o:Obj):IH:=λk=>if k=b then some o else none
theorem Sym.alloc (h:Sym w0 M I0 I l w) (o:Obj):Sym w0 M I0 I (pto w.heap.size o :: l) (w.alloc o):=by
 have⟨U,hi,hn,k,hs,hk,Z,hm⟩:=h
 have O:∀ (J:IH),J.le (hp w)->J.le (hp (w.alloc o)):=λJ hJ b p e=>by have D:=hJ b p e;have:=U2 D;show(w.alloc o).heap[b]? = _;rw[Below.heap_alloc _ _ _ this]; exact D
 refine⟨⟨U.os,U.tape,U.output,U.drawn,gN U.size (by simp),λb W h2=>?_⟩,O I hi,hn,(GX w.heap.size o).union k,⟨GX w.heap.size o,k,?_,IH.le_union_left _ _,IH.le_union_right ?_,by simp[pto,GX],hs⟩,?_,?_,?_⟩
 . rw[Below.heap_alloc _ _ _ (AjJ W U.size)]; exact U.block b W h2
 . intro b;by_cases e:b=w.heap.size
   . right; subst e
     cases D:k w.heap.size with
     | none=>rfl
     | some p=>have:=U2 (hk _ _ D); omega
   . left; simp[GX,e]
 . intro b;by_cases e:b=w.heap.size
   . right; subst e
     cases D:k w.heap.size with
     | none=>rfl
     | some p=>have:=U2 (hk _ _ D); omega
   . left; simp[GX,e]
 . refine IH.union_le (λb p e=>?_) (O k hk);simp only[GX] at e;split at e
   . rename_i d; subst d; cases e;show(w.heap.push o)[w.heap.size]? = _;simp
   . cases e
 . intro b;by_cases e:b=w.heap.size
   . left; subst e
     cases D:I w.heap.size with
     | none=>rfl
     | some p=>have:=U2 (hi _ _ D); omega
   . rcases Z b with d | d
     . exact .inl d
     . right; simp[IH.union,GX,e,d]
 . intro b V;rcases IH.union_none V with d | d
   . simp only[GX] at d;split at d
     . rename_i e; subst e; exact .inr U.size
     . exact absurd rfl d
   . exact hm b d
theorem Sym.drew (h:Sym w0 M I0 I l w) (n:Nat) (d:w.drawn<=n):Sym w0 M I0 I l { w with drawn:=n }:=
 ⟨⟨h.base.os,h.base.tape,h.base.output,gN h.base.drawn d,h.base.size,h.base.block⟩,h.imm,h.new,h.own⟩
inductive At:List HA→HA→List HA→HA→Prop
 | z {A B:HA} {l:List HA}:At (A :: l) A (B :: l) B
 | s {A B C:HA} {l m:List HA}:At l A m B→At (C :: l) A (C :: m) B
inductive Del:List HA→HA→List HA→Prop
 | z {A:HA} {l:List HA}:Del (A :: l) A l
 | s {A C:HA} {l m:List HA}:Del l A m→Del (C :: l) A (C :: m)
theorem lQ {l m:List HA} {A:HA} (O:Del l A m):∀ {h:IH},OQ l I h->∃ J W,J.disj W∧J.le h∧W.le h∧A.holds I J∧OQ m I W:=by
 induction O with
 | z=>exact λV=>V
 | s _ ih=>
  rintro h ⟨J,W,O,a5,a2,hc,V⟩;have⟨h3,h4,a4,U,d,ha,hm⟩:=ih V;refine⟨h3,J.union h4,?_,U.trans a2,IH.union_le a5 (d.trans a2),ha,J,h4,O.mono (IH.le.refl _) d,IH.le_union_left _ _,IH.le_union_right (O.mono (IH.le.refl _) d),hc,hm⟩;intro b;rcases O b with Z | Z
  . rcases a4 b with D | D
    . exact .inl D
    . right; simp[IH.union,Z,D]
  . left
    cases e:h3 b with
    | none=>rfl
    | some o=>rw[U b o e] at Z; cases Z
theorem At.del {l m:List HA} {A B:HA} (h:At l A m B):∃ r,Del l A r∧Del m B r:=by
 induction h with
 | z=>exact⟨_,.z,.z⟩
 | s _ D=>have⟨r,d,J⟩:=D; exact⟨_,.s d,.s J⟩
theorem AhN {l m:List HA} {A:HA} (D:Del l A m):∀ {h V Z:IH},V.disj Z->V.le h->Z.le h->A.holds I V->OQ m I Z->OQ l I h:=by
 induction D with
 | z=>exact λD J d ha hs=>⟨_,_,D,J,d,ha,hs⟩
 | s _ ih=>
  rintro h V Z D J d ha ⟨h3,h4,a4,a2,O,hc,hm⟩;refine⟨h3,V.union h4,?_,a2.trans d,IH.union_le J (O.trans d),hc,ih (D.mono (IH.le.refl _) O) (IH.le_union_left _ _) (IH.le_union_right (D.mono (IH.le.refl _) O)) ha hm⟩;intro b;rcases D b with W | W
  . rcases a4 b with U | U
    . exact .inl U
    . right; simp[IH.union,W,U]
  . left
    cases e:h3 b with
    | none=>rfl
    | some o=>rw[a2 b o e] at W; cases W
theorem Sym.del (h:Sym w0 M I0 I l w) {m:List HA} {A:HA} (W:Del l A m):Sym w0 M I0 I (A :: m) w:=by have⟨hb,hi,hn,k,hs,hk,U,hm⟩:=h;have⟨V,Z,O,d,J,ha,D⟩:=lQ W hs;exact⟨hb,hi,hn,k,⟨V,Z,O,d,J,ha,D⟩,hk,U,hm⟩
theorem Sym.undel {m:List HA} {A:HA} (h:Sym w0 M I0 I (A :: m) w) (J:Del l A m):Sym w0 M I0 I l w:=by have⟨d,hi,D,k,⟨_,_,hd',hl1,hl2,ha,hs'⟩,hk,hdj,hm⟩:=h;exact⟨d,hi,D,k,AhN J hd' hl1 hl2 ha hs',hk,hdj,hm⟩
theorem Sym.drop {A:HA} (h:Sym w0 M I0 I (A :: l) w):Sym w0 M I0 I l w:=by have⟨D,hi,d,k,⟨_,_,_,_,hl2,_,hs'⟩,hk,hdj,hm⟩:=h;exact⟨D,hi,d,k,MI (IH.le.refl _) hl2 hs',hk,hdj,hm⟩
theorem Sym.get {A:HA} (h:Sym w0 M I0 I (A :: l) w):∃ k,A.holds I k∧k.le (hp w):=by have⟨_,_,_,k,⟨h1,_,_,hl1,_,ha,_⟩,hk,_,_⟩:=h;exact⟨h1,ha,hl1.trans hk⟩
theorem Sym.pto {b:Nat} {o:Obj} (h:Sym w0 M I0 I (pto b o :: l) w):w.heap[b]? = some o:=by have⟨_,hk,d⟩:=h.get;exact d _ _ hk
theorem Sym.weaken {A B:HA} (h:Sym w0 M I0 I (A :: l) w) (d:∀ k,A.holds I k->B.holds I k):Sym w0 M I0 I (B :: l) w:=by have⟨D,hi,J,k,⟨h1,h2,hd',hl1,hl2,ha,hs'⟩,hk,hdj,hm⟩:=h;exact⟨D,hi,J,k,⟨h1,h2,hd',hl1,hl2,d _ ha,hs'⟩,hk,hdj,hm⟩
theorem Sym.upd {b:Nat} {o o':Obj} {w':World} (a4:Sym w0 M I0 I (Fw.pto b o :: l) w) (h1:w'.os=w.os) (h2:w'.tape=w.tape) (h3:w'.output=w.output) (a5:w'.drawn=w.drawn) (h4:w'.heap.size=w.heap.size)
   (W:∀ k,k≠b->w'.heap[k]? = w.heap[k]?) (h6:w'.heap[b]? = some o'):Sym w0 M I0 I (Fw.pto b o' :: l) w':=by
 have⟨O,hi,hn,k,⟨g1,g2,hd',hl1,hl2,ha,hs'⟩,hk,hdj,hm⟩:=a4;have a8:k b=some o:=hl1 _ _ ha
 have V:I b=none:=by
   rcases hdj b with d | d
   . exact d
   . rw[a8] at d; cases d
 have U:g2 b=none:=by
   rcases hd' b with d | d
   . rw[show g1 b=some o from ha] at d; cases d
   . exact d
 have D:∀ J:IH,J.le (hp w)->J b=none->J.le (hp w'):=λJ hJ a6 c p e=>by
   have a2:c≠b:=λh=>by rw[h,a6] at e; cases e
   show w'.heap[c]? = _;rw[W c a2]; exact hJ c p e
 refine⟨⟨h1.trans O.os,h2.trans O.tape,h3.trans O.output,by rw[a5]; exact O.drawn,by rw[h4]; exact O.size,λc Z a7=>?_⟩,D I hi V,hn,(GX b o').union g2,⟨GX b o',g2,?_,IH.le_union_left _ _,IH.le_union_right ?_,by simp[Fw.pto,GX],hs'⟩,?_,?_,?_⟩
 . by_cases e:c=b
   . grind
   . rw[W c e]; exact O.block c Z a7
 . intro c;grind[GX]
 . intro c;grind[GX]
 . refine IH.union_le (λc p e=>?_) (D g2 (hl2.trans hk) U);simp only[GX] at e;split at e
   . rename_i d; subst d; cases e; exact h6
   . cases e
 . intro c;by_cases e:c=b
   . left; rw[e]; exact V
   . rcases hdj c with d | d
     . exact .inl d
     . right
       have:g2 c=none:=by
        cases h:g2 c with
        | none=>rfl
        | some p=>rw[hl2 c p h] at d; cases d
       simp[IH.union,GX,e,this]
 . intro c Z;rcases IH.union_none Z with d | d
   . grind[GX]
   . refine hm c ?_
     cases e:g2 c with
     | none=>exact absurd e d
     | some p=>rw[hl2 c p e]; simp
theorem Sym.publish {A:HA} (h:Sym w0 M I0 I (A :: l) w):∃ J k,I.le J∧A.holds I k∧k.le J∧Sym w0 M I0 J l w:=by
  have⟨V,hi,W,k,⟨h1,h2,hd',hl1,hl2,ha,hs'⟩,hk,hdj,hm⟩:=h;have Z:I.disj h1:=hdj.mono (IH.le.refl _) hl1;have U:=IH.le_union_left I h1;refine⟨I.union h1,h1,U,ha,IH.le_union_right Z,V,IH.union_le hi (hl1.trans hk),?_,h2,MI U (IH.le.refl _) hs',hl2.trans hk,?_,?_⟩
  . intro b O;rcases IH.union_none O with d | d
    . exact W b d
    . rcases hm b (by cases e:h1 b with | none=>exact absurd e d | some o=>rw[hl1 b o e]; simp) with D | D
      all_goals grind
  . intro b;rcases hd' b with d | d
    . rcases hdj b with D | D
      . left; simp[IH.union,d,D]
      . right
        cases e:h2 b with
        | none=>rfl
        | some o=>rw[hl2 b o e] at D; cases D
    . exact .inr d
  . intro b O;exact hm b (by cases e:h2 b with | none=>exact absurd e O | some o=>rw[hl2 b o e]; simp)
def SX (w:World) (M:Nat->Prop) (I:IH) (φ:IH->Value->List HA->Prop):Ending->World->Prop:=
 λe w'=>∃ v d h,e=.returned v∧I.le d∧φ d v h∧Sym w M I d h w'
def Fun (P:Program) (f:FuncId) (args:Array Value) (I:IH) (l:List HA) (φ:IH->Value->List HA->Prop):Prop:=
 ∀ (w:World) (h:IH),I.le (hp w)->OQ l I h->h.le (hp w)->I.disj h->Calls P f args w (SX w (λb=>h b≠none) I φ)
theorem Sym.call {Z:World} {φ:IH->Value->List HA->Prop} {m r:List HA} (b1:Sym w0 M I0 I (m++r) w) {e:Ending}
   (k:IH) (hk:∃ O,k.disj O∧O.le (hp w)∧I.disj k∧I.disj O∧OQ r I O∧(∀ b,k b≠none->M b∨w0.heap.size<=b)∧(∀ b,O b≠none->M b∨w0.heap.size<=b))
   (ha:SX w (λb=>k b≠none) I φ e Z):∃ v W U,e=.returned v∧I.le W∧φ W v U∧Sym w0 M I0 W (U++r) Z:=by
 have⟨v,W,U,he,a8,hφ,hs⟩:=ha;have⟨O,a2,a5,_,d4,hr,d1,hm⟩:=hk;have⟨V,_,hn,_,_,_,_,_⟩:=b1;have⟨J,c2,b0,h,d3,d0,c1,a9⟩:=hs
 have d5:O.le (hp Z):=λb o eq=>by
   have a6:=U2 (a5 b o eq)
   have d2:¬k b≠none:=by
     rcases a2 b with D | D
     all_goals grind
   show Z.heap[b]? = _;rw[J.block b a6 d2]; exact a5 b o eq
 have d7:∀ b,O b≠none->b<w.heap.size:=λb c0=>AhM a5 c0
 have d6:W.disj O:=λb=>by
   by_cases e2:O b=none
   . exact .inr e2
   . left
     cases e1:W b with
     | none=>rfl
     | some o=>
       exfalso;rcases b0 b (by rw[e1]; simp) with D | D | D
       . rcases d4 b with d | d
         all_goals grind
       . rcases a2 b with d | d
         all_goals grind
       all_goals grind
 have a7:h.disj O:=λb=>by
   by_cases e2:O b=none
   . exact .inr e2
   . left
     cases e1:h b with
     | none=>rfl
     | some o=>
       exfalso;rcases a9 b (by rw[e1]; simp) with D | D
       . rcases a2 b with d | d
         all_goals grind
       all_goals grind
 refine⟨v,W,U,he,a8,hφ,⟨J.os.trans V.os,J.tape.trans V.tape,J.output.trans V.output,gN V.drawn J.drawn,gN V.size J.size,λb h1 h2=>?_⟩,c2,λb a4=>?_,h.union O,O9.2 ⟨h,O,a7,IH.le_union_left _ _,IH.le_union_right a7,d3,MI a8 (IH.le.refl _) hr⟩,IH.union_le d0 d5,?_,?_⟩
 . have a6:b<w.heap.size:=AjJ h1 V.size;by_cases e:k b=none
   . rw[J.block b a6 (by simp[e])]; exact V.block b h1 h2
   all_goals grind
 . rcases b0 b a4 with D | D | D
   . exact hn b D
   . grind
   . exact .inr (.inr (gN V.size D))
 . intro b;rcases c1 b with D | D
   . exact .inl D
   . rcases d6 b with d | d
     . exact .inl d
     . right; simp[IH.union,D,d]
 . intro b a4;rcases IH.union_none a4 with D | D
   . rcases a9 b D with d | d
     . exact d1 b d
     . exact .inr (gN V.size d)
   . exact hm b D
theorem Fun.use {P:Program} {f:FuncId} {args:Array Value} {φ:IH->Value->List HA->Prop} {m r:List HA} (hf:Fun P f args I m φ) (a5:Sym w0 M I0 I (m++r) w)
  {R:Ending->World->Prop} (hR:∀ v V U w',I.le V->φ V v U->Sym w0 M I0 V (U++r) w'->R (.returned v) w'):Calls P f args w R:=by
 have⟨hb,hi,hn,k,hs,hk,Z,O⟩:=a5;have⟨W,h,a6,D,J,a7,a8⟩:=O9.1 hs;refine(hf w W hi a7 (D.trans hk) (Z.mono (IH.le.refl _) D)).mono λ_ w' ha=>?_;have a2:∀ b,W b≠none->k b≠none:=λb d=>by cases e':W b with | none=>exact absurd e' d | some o=>rw[D b o e']; simp
 have a4:∀ b,h b≠none->k b≠none:=λb d=>by cases e':h b with | none=>exact absurd e' d | some o=>rw[J b o e']; simp
 obtain⟨v,V,U,rfl,_,_,_⟩:=Sym.call (m:=m) (r:=r) ⟨hb,hi,hn,k,hs,hk,Z,O⟩ W ⟨h,a6,J.trans hk,Z.mono (IH.le.refl _) D,Z.mono (IH.le.refl _) J,a8,λb d=>O b (a2 b d),λb d=>O b (a4 b d)⟩ ha;grind
theorem Fun.start {h:IH} (hi:I.le (hp w)) (d:OQ l I h) (D:h.le (hp w)) (J:I.disj h):Sym w (λb=>h b≠none) I I l w:=
 ⟨⟨rfl,rfl,rfl,Z0 _,Z0 _,λ_ _ _=>rfl⟩,hi,λ_ h=>.inl h,h,d,D,J,λ_ h=>.inl h⟩
variable {P:Program} {n:FrK} {E:DH} {S:World→Prop} {Q:Exit→Act→World→Prop}
def Ops (P:Program) (ops:Array Oper) (l:List Oper) (n:FrK) (E:DH) (S:World->Prop) (Q:Exit->Act->World->Prop):Prop:=
 ∀ a w,Ok n E a->S w->wpListIn (X4 n) 0 P ops Q l a w
def Cod (P:Program) (c:Code) (n:FrK) (E:DH) (S:World->Prop) (Q:Exit->Act->World->Prop):Prop:=
 ∀ a w,Ok n E a->S w->c.wpIn (X4 n) 0 P Q a w
theorem OA {b:Frame} {k:List Item} {cs:List Frame} {a:Act} {c:Code}:step P (lone (b.atR a (.code (.scope c) :: k)) cs w)=.next (lone (b.atR a (.code c :: .inScope c :: k)) cs w):=
 step_lone_go (by simp[stepG,stepG.exec,Frame.atR])
theorem yO {b:Frame} {k:List Item} {cs:List Frame} {a:Act} {c:Code}:step P (lone (b.atR a (.inScope c :: k)) cs w)=.next (lone (b.atR a k) cs w):=
 step_lone_go (by simp[stepG,stepG.exec,Frame.atR])
theorem pJ {F:Fence} {i:Nat} {c:Code} {a:Act} (a2:c.wpIn F i P (Exit.noGoto Q) a w):(Code.scope c).wpIn F i P Q a w:=by
 intro b k cs W Z V;have J:(lone (b.atR a (.code (.scope c) :: k)) cs w).fenced P F:=fenced_calm Z V rfl;have⟨e,O,U,D,d⟩:=a2 b (.inScope c :: k) cs W Z V
 cases e with
 | normal=>exact⟨.normal,O,U,D,.head J OA (StepsIn.trans d (.one (fenced_calm Z V rfl) yO))⟩
 | exit id=>
  have h:exitTo id (.inScope c :: k)=exitTo id k:=by simp[exitTo]
  exact⟨.exit id,O,U,D,λk' hk=>.head J OA (d.1 k' (by rw[h]; exact hk)),
   λa4 hk=>let ⟨k₁,h1,h2⟩:=d.2 a4 (by rw[h]; exact hk); ⟨k₁,h1,.head J OA h2⟩⟩
 | goto l=>exact D.elim
 | ret=>exact⟨_,O,U,D,.of_steps (.one J OA) d⟩
 | panic ch=>exact⟨_,O,U,D,.of_steps (.one J OA) d⟩
 | outgrown=>exact⟨_,O,U,D,.of_steps (.one J OA) d⟩
theorem Cod.at {c:Code} {a:Act} (d:Ok n E a) (D:S w) (h:Cod P c n E S Q):c.wpIn (X4 n) 0 P Q a w:=h a w d D
theorem Ops.sub {ops:Array Oper} {l:List Oper} {E':DH} (d:Sub E' E) (h:Ops P ops l n E' S Q):Ops P ops l n E S Q:=λa w J D=>h a w (J.sub d) D
theorem Cod.pre {c:Code} {d:World->Prop} (D:∀ w,S w->d w) (h:Cod P c n E d Q):Cod P c n E S Q:=λa w O J=>h a w O (D w J)
theorem Ops.pre {ops:Array Oper} {l:List Oper} {d:World->Prop} (D:∀ w,S w->d w) (h:Ops P ops l n E d Q):Ops P ops l n E S Q:=λa w O J=>h a w O (D w J)
theorem Cod.seq {x y:Code} (h:Cod P x n E S (Exit.then (y.wpIn (X4 n) 0 P Q) Q)):Cod P (.seq x y) n E S Q:=λa w d D=>wpIn_seq (h a w d D)
theorem Cod.region {l:List Oper} (h:Ops P l.toArray l n E S Q):Cod P (.region id l.toArray false) n E S Q:=λa w d D=>wpIn_region_lit (h a w d D)
theorem Cod.block {c:Code} (h:Cod P c n E S (Exit.inBlock id Q)):Cod P (.block id c) n E S Q:=λa w d D=>wpIn_block (h a w d D)
theorem Cod.scope {c:Code} (h:Cod P c n E S (Exit.noGoto Q)):Cod P (.scope c) n E S Q:=λa w d D=>pJ (h a w d D)
theorem Cod.skip' (h:∀ a w,Ok n E a->S w->Q .normal a w):Cod P .skip n E S Q:=λa w d D=>wpIn_skip (h a w d D)
theorem Cod.exit (h:∀ a w,Ok n E a->S w->Q (.exit id) a w):Cod P (.exit id) n E S Q:=λa w d D=>wpIn_exit (h a w d D)
theorem Cod.ret (h:∀ a w,Ok n E a->S w->Q .ret a w):Cod P .ret n E S Q:=λa w d D=>wpIn_ret (h a w d D)
theorem Cod.label' {k:Nat} (h:∀ a w,Ok n E a->S w->Q .normal a w):Cod P (.label k) n E S Q:=λa w d D=>wpIn_label (h a w d D)
theorem Cod.cond {c:Operand} {x y:Code} {t:Bool} (J:ev E c=some (.bool t)) (U:t=true->Cod P x n E S Q) (O:t=false->Cod P y n E S Q):Cod P (.cond c x y) n E S Q:=
 λa w d D=>wpIn_cond_split (d.eval J) (λh=>U h a w d D) (λh=>O h a w d D)
theorem Cod.condT {c:Operand} {x y:Code} (J:ev E c=some (.bool true)) (h:Cod P x n E S Q):Cod P (.cond c x y) n E S Q:=λa w d D=>wpIn_cond_true (d.eval J) (h a w d D)
theorem Cod.condF {c:Operand} {x y:Code} (J:ev E c=some (.bool false)) (h:Cod P y n E S Q):Cod P (.cond c x y) n E S Q:=λa w d D=>wpIn_cond_false (d.eval J) (h a w d D)
theorem Cod.condKT {c:Operand} {x y:Code} {t:Bool} (d:ev E c=some (.bool t)) (D:t=true) (h:Cod P x n E S Q):Cod P (.cond c x y) n E S Q:=Cod.condT (by rw[d,D]) h
theorem Cod.condKF {c:Operand} {x y:Code} {t:Bool} (d:ev E c=some (.bool t)) (D:t=false) (h:Cod P y n E S Q):Cod P (.cond c x y) n E S Q:=Cod.condF (by rw[d,D]) h
theorem Ops.nil' {ops:Array Oper} (h:∀ a w,Ok n E a->S w->Q .normal a w):Ops P ops [] n E S Q:=λa w d D=>h a w d D
theorem lR {o:Oper} {a:Act} {K:Act->World->Prop} {x:Next} {O:World} (D:(execOp a.eval o).run P w=.ok x O) (V:∀ d,x≠.defer d) (h:o.uponIn (X4 n) 0 P a K Q (.ok x O)):o.wpIn (X4 n) 0 P a w K Q:=by
 have J:∀ c,o.op≠.defer c:=λc U=>by
  unfold execOp at D; rw[U] at D;simp only[Sem.run_bind,Result.andThen] at D;split at D
  . simp at D; exact V _ D.1.symm
  . cases D
 refine⟨λ_ _=>trivial,?_⟩;rw[Oper.semAt_eq _ _ _ J,D]; exact h
def A7 (b:Bool) (A B:Prop):Prop:=(b=true->A)∧(b=false->B)
def SY (d:σ->(σ->Prop)->Prop):Nat->σ->Prop
 | 0,_=>False
 | k+1,s=>d s (SY d k)
def B4 (d:σ->(σ->Prop)->Prop) (s:σ):Prop:=∃ k,SY d k s
theorem Cod.loop {c:Code} {d:σ->(σ->Prop)->Prop} {s0:σ} (hd:B4 d s0) (D:σ->Act->World->Prop) (h0:∀ a w,Ok n E a->S w->D s0 a w)
  (a2:∀ s (next:σ->Prop),d s next->∀ a w,D s a w->c.wpIn (X4 n) 0 P (Exit.then (λZ w'=>∃ J,next J∧D J Z w') Q) a w):Cod P (.loop c) n E S Q:=by
 intro a w ho hs
 have⟨k,hk⟩:=hd
 have a4:=h0 a w ho hs
 clear h0 ho hs
 obtain⟨μ,hμ⟩:∃ μ:Act->World->Nat,∀ a w,(∃ j s,SY d j s∧D s a w)->∃ s,SY d (μ a w) s∧D s a w∧∀ j J,SY d j J->D J a w->μ a w<=j:=by
  have H:∀ a w,∃ m:Nat,(∃ j s,SY d j s∧D s a w)->∃ s,SY d m s∧D s a w∧∀ j J,SY d j J->D J a w->m<=j:=by
   intro a w
   by_cases hex:∃ j s,SY d j s∧D s a w
   . have⟨j,s,W⟩:=hex
     suffices h:∀ (b:Nat) (s:σ),SY d b s->D s a w->∃ m s,SY d m s∧D s a w∧∀ j J,SY d j J->D J a w->m<=j by
      have⟨m,s,U,O,h3⟩:=h j s W.1 W.2
      exact⟨m,λ_=>⟨s,U,O,h3⟩⟩
     intro b
     induction b using Nat.strongRecOn with
     | _ b ih=>
      grind
   . exact⟨0,λh=>absurd h hex⟩
  exact⟨λa w=>Classical.choose (H a w),λa w=>Classical.choose_spec (H a w)⟩
 refine wpIn_loop (λa w=>∃ j s,SY d j s∧D s a w) μ ⟨k,s0,hk,a4⟩ λa w hI=>?_
 have⟨s,U,O,h3⟩:=hμ a w hI
 cases hm:μ a w with
 | zero=>rw[hm] at U; exact U.elim
 | succ m=>
  rw[hm] at U
  refine Code.wpIn_mono (λe Z w' q=>?_) (a2 s (SY d m) U a w O)
  cases e <;> try exact q
  have⟨J,hn,V⟩:=q
  refine⟨⟨m,J,hn,V⟩,?_⟩
  have⟨_,_,_,_⟩:=hμ Z w' ⟨m,J,hn,V⟩
  grind
end
section
variable {w0 w:World} {M:Nat→Prop} {I0 I:IH} {m:List HA}
variable {P:Program} {n:FrK} {E:DH} {S:World→Prop} {Q:Exit→Act→World→Prop} {ops:Array Oper} {l:List Oper}
variable {d ty:Nat} {pos:String} {af:Array Edge}
variable {q':IntKind}
theorem Ops.valx {o:Oper} (T:Value->World->Prop) (hg:o.guard=none) (O:o.dst=some d)
  (J:∀ a w,Ok n E a->S w->∃ v w',(execOp a.eval o).run P w=.ok (.value v) w'∧T v w')
  (Z:Nat.blt d n.sz=true) (V:fresh E d=true) (k:∀ v,Ops P ops l n ((d,v) :: E) (T v) Q):Ops P ops (o :: l) n E S Q:=by
 intro a w D hs;have⟨v,w',h,W⟩:=J a w D hs;refine wpListIn_plain hg λ_ U=>?_;refine lR h (by simp) ?_;simp only[Oper.uponIn,O];exact U _ _ (k v _ _ (D.put Z V v) W)
theorem Ops.val {o:Oper} {v:Value} (O:o.guard=none) (V:o.dst=some d)
  (U:∀ a w,Ok n E a->S w->(execOp a.eval o).run P w=.ok (.value v) w)
  (J:Nat.blt d n.sz=true) (Z:fresh E d=true) (k:Ops P ops l n ((d,v) :: E) S Q):Ops P ops (o :: l) n E S Q:=by
 intro a w D h;refine wpListIn_plain O λ_ W=>?_;refine lR (U a w D h) (by simp) ?_;simp only[Oper.uponIn,V];exact W _ _ (k _ _ (D.put J Z v) h)
theorem Ops.act {o:Oper} {D:World->Prop} (V:o.guard=none) (Z:o.dst=none)
  (W:∀ a w,Ok n E a->S w->∃ w',(execOp a.eval o).run P w=.ok .skip w'∧D w') (k:Ops P ops l n E D Q):Ops P ops (o :: l) n E S Q:=by
 intro a w J U;have⟨w',h,O⟩:=W a w J U;refine wpListIn_plain V λ_ hK=>?_;refine lR h (by simp) ?_;simp only[Oper.uponIn,Z];exact hK _ _ (k _ _ J O)
theorem Ops.val0 {o:Oper} {D:World->Prop} (hg:o.guard=none) (U:o.dst=none)
  (O:∀ a w,Ok n E a->S w->∃ v w',(execOp a.eval o).run P w=.ok (.value v) w'∧D w') (k:Ops P ops l n E D Q):Ops P ops (o :: l) n E S Q:=by
 intro a w J Z;have⟨v,w',h,W⟩:=O a w J Z;refine wpListIn_plain hg λ_ V=>?_;refine lR h (by simp) ?_;simp only[Oper.uponIn,U];exact V _ _ (k _ _ J W)
def rI (ops:Array Oper) (j:Nat):Option Nat:=(ops[j]?).bind (·.dst)
theorem jI {a:Act} {j s:Nat} {b:Bool} (D:rI ops j=some s) (h:a.tmps[s]? = some (.bool b)):yielded ops a.tmps j=some b:=by simp only[rI] at D;simp[yielded,D,h]
theorem Ops.gyes {h:Option Nat} {D:Op} {j s:Nat} {b c:Bool} (U:rI ops j=some s) (V:look E s=some (.bool c)) (W:c=b)
  (k:Ops P ops (⟨h,D,ty,pos,af,none⟩ :: l) n E S Q):Ops P ops (⟨h,D,ty,pos,af,some (j,b)⟩ :: l) n E S Q:=by
 subst W;intro a w J Z;have hk:=k a w J Z;unfold wpListIn at hk ⊢;have O:=jI (ops:=ops) U (J.env.look V);rw[if_pos (by simp[Region.wanted])] at hk;rw[if_pos (by simp[Region.wanted,O])];exact hk
theorem Ops.gno {h:Nat} {V:Op} {j s:Nat} {b c:Bool} (U:rI ops j=some s) (W:look E s=some (.bool c)) (D:c = !b)
  (Z:Nat.blt h n.sz=true) (hf:fresh E h=true) (k:Ops P ops l n ((h,undef) :: E) S Q):Ops P ops (⟨some h,V,ty,pos,af,some (j,b)⟩ :: l) n E S Q:=by
 intro a w J hw;unfold wpListIn;have O:=jI (ops:=ops) U (J.env.look W);rw[if_neg (by simp only[Region.wanted,O]; subst D; cases b <;> simp)];exact⟨λ_ _=>trivial,k _ _ (J.put Z hf undef) hw⟩
section
variable {x y z:Operand} {v u:Value}
theorem Ops.move (D:ev E x=some v) (h:Nat.blt d n.sz=true) (J:fresh E d=true) (k:Ops P ops l n ((d,v) :: E) S Q):Ops P ops (⟨some d,.move x,ty,pos,af,none⟩ :: l) n E S Q:=
 Ops.val rfl rfl (λ_ _ O _=>by simp[execOp,O.eval D]) h J k
theorem Ops.pickT {c:Bool} (O:ev E x=some (.bool c)) (U:c=true) (D:ev E y=some v) (J:Nat.blt d n.sz=true) (V:fresh E d=true) (k:Ops P ops l n ((d,v) :: E) S Q) :
  Ops P ops (⟨some d,.pick x y z,ty,pos,af,none⟩ :: l) n E S Q:=
 Ops.val rfl rfl (λ_ _ h _=>by subst U; simp[execOp,h.eval O,h.eval D,asBool]) J V k
theorem Ops.pickF {c:Bool} (O:ev E x=some (.bool c)) (U:c=false) (D:ev E z=some v) (J:Nat.blt d n.sz=true) (V:fresh E d=true) (k:Ops P ops l n ((d,v) :: E) S Q) :
  Ops P ops (⟨some d,.pick x y z,ty,pos,af,none⟩ :: l) n E S Q:=
 Ops.val rfl rfl (λ_ _ h _=>by subst U; simp[execOp,h.eval O,h.eval D,asBool]) J V k
theorem Ops.nilCheckP {p:Addr} (D:ev E x=some (.pointer (some p))) (h:Nat.blt d n.sz=true) (J:fresh E d=true) (k:Ops P ops l n ((d,.pointer (some p)) :: E) S Q) :
  Ops P ops (⟨some d,.nilCheck x,ty,pos,af,none⟩ :: l) n E S Q:=
 Ops.val rfl rfl (λ_ _ O _=>by simp[execOp,O.eval D]) h J k
theorem Ops.makeFunc {D:Fn} {first cap:Array Operand} {vs h:Array Value} (O:∀ a,Ok n E a->first.map a.eval=vs) (V:∀ a,Ok n E a->cap.map a.eval=h)
  (U:Nat.blt d n.sz=true) (W:fresh E d=true) (k:Ops P ops l n ((d,.func D vs h) :: E) S Q):Ops P ops (⟨some d,.makeFunc D first cap,ty,pos,af,none⟩ :: l) n E S Q:=
 Ops.val rfl rfl (λa _ J _=>by simp only[execOp,Instr.makeFunc,O a J,V a J]; rfl) U W k
end
section
variable {x y:Operand} {q:IntKind} {a b:Int} {T T':TypeId}
abbrev AJ (x:Int):Int:=IntKind.wrap .i64 x
def cC (q:IntKind) (a b:Int):Int:=q.wrap (BitVec.ofInt q.bits a &&& BitVec.ofInt q.bits b).toNat
def bor (q:IntKind) (a b:Int):Int:=q.wrap (BitVec.ofInt q.bits a ||| BitVec.ofInt q.bits b).toNat
def AxN (q:IntKind) (a b:Int):Int:=q.wrap (BitVec.ofInt q.bits a ^^^ BitVec.ofInt q.bits b).toNat
def AvA (q:IntKind) (a b:Int):Int:=q.wrap (BitVec.ofInt q.bits a &&& ~~~ BitVec.ofInt q.bits b).toNat
def shl (q:IntKind) (a b:Int):Int:=q.wrap (a*2 ^ (min b.toNat q.bits))
def shr (q:IntKind) (a b:Int):Int:=a.fdiv (2 ^ (min b.toNat q.bits))
theorem Ops.int2 {h:BinOp} {v:Value} (Z:ev E x=some (.int q a)) (U:ev E y=some (.int q b)) (J:∀ w,(binOp h T (.int q a) (.int q b)).run P w=.ok v w)
  (V:Nat.blt d n.sz=true) (O:fresh E d=true) (k:Ops P ops l n ((d,v) :: E) S Q):Ops P ops (⟨some d,.binOp h T x y T',ty,pos,af,none⟩ :: l) n E S Q:=
 Ops.val rfl rfl (λ_ w D _=>by
  have W:(eqGuard h T x y (.int q a) (.int q b)).run P w=.ok () w:=by unfold eqGuard; cases h <;> rfl
  simp only[execOp,D.eval Z,D.eval U,Sem.run_bind,W,Result.andThen_ok,J,Sem.run_pure]) V O k
theorem Ops.add (h:ev E x=some (.int q a)) (D:ev E y=some (.int q b)) (O:Nat.blt d n.sz=true) (J:fresh E d=true) (k:Ops P ops l n ((d,.int q (q.wrap (a+b))) :: E) S Q) :
 Ops P ops (⟨some d,.binOp .add T x y T',ty,pos,af,none⟩ :: l) n E S Q:=Ops.int2 h D (λ_=>by simp[binOp,Op.intArith]) O J k
theorem Ops.quo (h:ev E x=some (.int q a)) (D:ev E y=some (.int q b)) (O:b≠0) (U:Nat.blt d n.sz=true) (J:fresh E d=true) (k:Ops P ops l n ((d,.int q (q.wrap (a.tdiv b))) :: E) S Q) :
 Ops P ops (⟨some d,.binOp .quo T x y T',ty,pos,af,none⟩ :: l) n E S Q:=Ops.int2 h D (λ_=>by simp[binOp,Op.intDiv,O]) U J k
theorem Ops.rem (h:ev E x=some (.int q a)) (D:ev E y=some (.int q b)) (O:b≠0) (U:Nat.blt d n.sz=true) (J:fresh E d=true) (k:Ops P ops l n ((d,.int q (a.tmod b)) :: E) S Q) :
 Ops P ops (⟨some d,.binOp .rem T x y T',ty,pos,af,none⟩ :: l) n E S Q:=Ops.int2 h D (λ_=>by simp[binOp,Op.intDiv,O]) U J k
theorem Ops.and (h:ev E x=some (.int q a)) (D:ev E y=some (.int q b)) (O:Nat.blt d n.sz=true) (J:fresh E d=true) (k:Ops P ops l n ((d,.int q (cC q a b)) :: E) S Q) :
 Ops P ops (⟨some d,.binOp .and T x y T',ty,pos,af,none⟩ :: l) n E S Q:=Ops.int2 h D (λ_=>by simp[binOp,Op.intBits,cC]) O J k
theorem Ops.eq (h:ev E x=some (.int q a)) (D:ev E y=some (.int q b)) (O:Nat.blt d n.sz=true) (J:fresh E d=true) (k:Ops P ops l n ((d,.bool (a==b)) :: E) S Q) :
 Ops P ops (⟨some d,.binOp .eql T x y T',ty,pos,af,none⟩ :: l) n E S Q:=Ops.int2 h D (λ_=>by simp[binOp,Op.intCmp]) O J k
theorem Ops.ne (h:ev E x=some (.int q a)) (D:ev E y=some (.int q b)) (O:Nat.blt d n.sz=true) (J:fresh E d=true) (k:Ops P ops l n ((d,.bool (a != b)) :: E) S Q) :
 Ops P ops (⟨some d,.binOp .neq T x y T',ty,pos,af,none⟩ :: l) n E S Q:=Ops.int2 h D (λ_=>by simp[binOp,Op.intCmp]) O J k
theorem Ops.gt (h:ev E x=some (.int q a)) (D:ev E y=some (.int q b)) (O:Nat.blt d n.sz=true) (J:fresh E d=true) (k:Ops P ops l n ((d,.bool (decide (b<a))) :: E) S Q) :
 Ops P ops (⟨some d,.binOp .gtr T x y T',ty,pos,af,none⟩ :: l) n E S Q:=Ops.int2 h D (λ_=>by simp[binOp,Op.intCmp]) O J k
theorem Ops.sft {h:BinOp} {v:Value} (W:ev E x=some (.int q a)) (O:ev E y=some (.int q' b)) (D:h=.shl∨h=.shr) (Z:∀ w,(binOp h T (.int q a) (.int q' b)).run P w=.ok v w)
  (U:Nat.blt d n.sz=true) (hf:fresh E d=true) (k:Ops P ops l n ((d,v) :: E) S Q):Ops P ops (⟨some d,.binOp h T x y T',ty,pos,af,none⟩ :: l) n E S Q:=
 Ops.val rfl rfl (λ_ w J _=>by
  have V:(eqGuard h T x y (.int q a) (.int q' b)).run P w=.ok () w:=by rcases D with rfl | rfl <;> rfl
  simp only[execOp,J.eval W,J.eval O,Sem.run_bind,V,Result.andThen_ok,Z,Sem.run_pure]) U hf k
theorem Ops.shl' (h:ev E x=some (.int q a)) (D:ev E y=some (.int q' b)) (O:0<=b) (U:Nat.blt d n.sz=true) (J:fresh E d=true) (k:Ops P ops l n ((d,.int q (shl q a b)) :: E) S Q) :
 Ops P ops (⟨some d,.binOp .shl T x y T',ty,pos,af,none⟩ :: l) n E S Q:=Ops.sft h D (.inl rfl) (λ_=>by simp[binOp,Op.shift,Fw.shl,Int.not_lt.2 O]) U J k
theorem Ops.shr' (h:ev E x=some (.int q a)) (D:ev E y=some (.int q' b)) (O:0<=b) (U:Nat.blt d n.sz=true) (J:fresh E d=true) (k:Ops P ops l n ((d,.int q (shr q a b)) :: E) S Q) :
 Ops P ops (⟨some d,.binOp .shr T x y T',ty,pos,af,none⟩ :: l) n E S Q:=Ops.sft h D (.inr rfl) (λ_=>by simp[binOp,Op.shift,Fw.shr,Int.not_lt.2 O]) U J k
theorem Ops.not {b:Bool} (D:ev E x=some (.bool b)) (h:Nat.blt d n.sz=true) (J:fresh E d=true) (k:Ops P ops l n ((d,.bool (!b)) :: E) S Q) :
 Ops P ops (⟨some d,.unOp .not T x,ty,pos,af,none⟩ :: l) n E S Q:=Ops.val rfl rfl (λ_ _ O _=>by simp[execOp,O.eval D,Op.unary]) h J k
theorem Ops.neg (D:ev E x=some (.int q a)) (h:Nat.blt d n.sz=true) (J:fresh E d=true) (k:Ops P ops l n ((d,.int q (q.wrap (0 - a))) :: E) S Q) :
 Ops P ops (⟨some d,.unOp .neg T x,ty,pos,af,none⟩ :: l) n E S Q:=Ops.val rfl rfl (λ_ _ O _=>by simp[execOp,O.eval D,Op.unary,Op.intArith]) h J k
theorem Ops.conv {h:IntKind} (J:P.underlying T=some (.int h)) (D:P.underlying T'=some (.int q')) (U:ev E x=some (.int q a)) (O:Nat.blt d n.sz=true) (V:fresh E d=true)
  (k:Ops P ops l n ((d,.int q' (q'.wrap a)) :: E) S Q) :
  Ops P ops (⟨some d,.convert T T' x,ty,pos,af,none⟩ :: l) n E S Q:=
 Ops.val rfl rfl (λ_ _ W _=>by simp[execOp,W.eval U,convert,run_underlying J,run_underlying D,Conv.intToInt]) O V k
theorem eY {u v:Value} {r:Bool} (h:∀ e w,(Op.equalIn (e+1) T u v).run P w=.ok r w) (w:World):(Op.equal T u v).run P w=.ok r w:=h 9999 w
theorem Ops.eqV {u v:Value} {r:Bool} (V:ev E x=some u) (J:ev E y=some v) (W:∀ w,(Op.equal T u v).run P w=.ok r w)
  (U:∀ w,(eqGuard .eql T x y u v).run P w=.ok () w) (h:binOp .eql T u v=(do pure (.bool (<-Op.equal T u v))))
  (O:Nat.blt d n.sz=true) (Z:fresh E d=true) (k:Ops P ops l n ((d,.bool r) :: E) S Q):Ops P ops (⟨some d,.binOp .eql T x y T',ty,pos,af,none⟩ :: l) n E S Q:=
 Ops.val rfl rfl (λ_ w D _=>by simp only[execOp,D.eval V,D.eval J,Sem.run_bind,U,Result.andThen_ok,h,W,Sem.run_pure]) O Z k
theorem Ops.neV {u v:Value} {r:Bool} (V:ev E x=some u) (J:ev E y=some v) (W:∀ w,(Op.equal T u v).run P w=.ok r w)
  (U:∀ w,(eqGuard .neq T x y u v).run P w=.ok () w) (h:binOp .neq T u v=(do pure (.bool (!(<-Op.equal T u v)))))
  (O:Nat.blt d n.sz=true) (Z:fresh E d=true) (k:Ops P ops l n ((d,.bool (!r)) :: E) S Q):Ops P ops (⟨some d,.binOp .neq T x y T',ty,pos,af,none⟩ :: l) n E S Q:=
 Ops.val rfl rfl (λ_ w D _=>by simp only[execOp,D.eval V,D.eval J,Sem.run_bind,U,Result.andThen_ok,h,W,Sem.run_pure]) O Z k
theorem Ops.eqB {a b:Bool} (D:P.underlying T=some .bool) (O:ev E x=some (.bool a)) (h:ev E y=some (.bool b)) (J:Nat.blt d n.sz=true) (U:fresh E d=true) (k:Ops P ops l n ((d,.bool (a==b)) :: E) S Q) :
  Ops P ops (⟨some d,.binOp .eql T x y T',ty,pos,af,none⟩ :: l) n E S Q:=
 Ops.eqV O h (eY λ_ _=>by simp[Op.equalIn,run_underlying D]) (λ_=>rfl) rfl J U k
theorem Ops.neB {a b:Bool} (D:P.underlying T=some .bool) (O:ev E x=some (.bool a)) (h:ev E y=some (.bool b)) (J:Nat.blt d n.sz=true) (U:fresh E d=true) (k:Ops P ops l n ((d,.bool (!(a==b))) :: E) S Q) :
  Ops P ops (⟨some d,.binOp .neq T x y T',ty,pos,af,none⟩ :: l) n E S Q:=
 Ops.neV O h (eY λ_ _=>by simp[Op.equalIn,run_underlying D]) (λ_=>rfl) rfl J U k
theorem Ops.eqNilP {p:Option Addr} {t:TypeId} (D:P.underlying T=some (.pointer t)) (O:ev E x=some (.pointer p)) (h:ev E y=some (.pointer none)) (J:Nat.blt d n.sz=true) (U:fresh E d=true)
  (k:Ops P ops l n ((d,.bool p.isNone) :: E) S Q):Ops P ops (⟨some d,.binOp .eql T x y T',ty,pos,af,none⟩ :: l) n E S Q:=
 Ops.eqV O h (eY λ_ _=>by cases p <;> simp[Op.equalIn,run_underlying D]) (λ_=>rfl) rfl J U k
theorem Ops.neNilP {p:Option Addr} {t:TypeId} (D:P.underlying T=some (.pointer t)) (O:ev E x=some (.pointer p)) (h:ev E y=some (.pointer none)) (J:Nat.blt d n.sz=true) (U:fresh E d=true)
  (k:Ops P ops l n ((d,.bool (!p.isNone)) :: E) S Q):Ops P ops (⟨some d,.binOp .neq T x y T',ty,pos,af,none⟩ :: l) n E S Q:=
 Ops.neV O h (eY λ_ _=>by cases p <;> simp[Op.equalIn,run_underlying D]) (λ_=>rfl) rfl J U k
end
theorem Ops.minI {x y:Operand} {q:IntKind} {a b:Int} {h:Array TypeId} (U:ev E x=some (.int q a)) (J:ev E y=some (.int q b)) (O:Nat.blt d n.sz=true) (V:fresh E d=true)
  (k:Ops P ops l n ((d,.int q (if b<a then b else a)) :: E) S Q):Ops P ops (⟨some d,.call ⟨.builtin .min,#[x,y],h⟩,ty,pos,af,none⟩ :: l) n E S Q:=
 Ops.val rfl rfl (λ_ _ D _=>by simp[execOp,resolve,invoke,builtin,Builtin.min_,Builtin.min2,D.eval U,D.eval J]) O V k
theorem Ops.maxI {x y:Operand} {q:IntKind} {a b:Int} {h:Array TypeId} (U:ev E x=some (.int q a)) (J:ev E y=some (.int q b)) (O:Nat.blt d n.sz=true) (V:fresh E d=true)
  (k:Ops P ops l n ((d,.int q (if b > a then b else a)) :: E) S Q):Ops P ops (⟨some d,.call ⟨.builtin .max,#[x,y],h⟩,ty,pos,af,none⟩ :: l) n E S Q:=
 Ops.val rfl rfl (λ_ _ D _=>by simp[execOp,resolve,invoke,builtin,Builtin.max_,Builtin.max2,D.eval U,D.eval J]) O V k
theorem eqS {T:TypeId} {k:Nat} {D:Array Field} {xs ys:Array Value} {r:Bool} (J:P.underlying T=some (.struct D)) (hp:P.stoodInHeld T=false) (h:∀ w,(Op.eqFields k xs ys D.toList).run P w=.ok r w) (w:World) :
  (Op.equalIn (k+1) T (.agg xs) (.agg ys)).run P w=.ok r w:=by
 have e0:P.fieldsOf T=D:=by simp[Program.fieldsOf,J]
 rw[run_equalIn_struct w k T xs ys (by rw[J,e0]) hp,e0]; exact h w
theorem eqN {k:Nat} {xs ys:Array Value} (w:World):(Op.eqFields k xs ys []).run P w=.ok true w:=rfl
theorem eqC {k:Nat} {xs ys:Array Value} {f:Field} {D:List Field} {u v:Value} {b r:Bool} (V:f.name ≠ "_") (J:∀ w,(isAgg f.type).run P w=.ok false w) (U:xs[f.offset]? = some u) (O:ys[f.offset]? = some v)
  (W:∀ w,(Op.equalIn k f.type u v).run P w=.ok b w) (h:∀ w,(Op.eqFields k xs ys D).run P w=.ok r w) (w:World):(Op.eqFields k xs ys (f :: D)).run P w=.ok (b && r) w:=by
 simp only[Op.eqFields,V,ne_eq,not_false_eq_true,if_true,Sem.run_bind,part,J,Result.andThen_ok,AbS,if_false,U,O,Sem.run_pure,W];cases b <;> simp[h]
theorem eqI {T:TypeId} {k:Nat} {q:IntKind} {a b:Int} (h:P.underlying T=some (.int q')) (w:World):(Op.equalIn (k+1) T (.int q a) (.int q b)).run P w=.ok (a==b) w:=run_equalIn_int w k T q q' a b h
end
section
variable {w0 w:World} {M:Nat→Prop} {I0 I:IH} {m m':List HA}
variable {P:Program} {n:FrK} {E:DH} {Q:Exit→Act→World→Prop} {ops:Array Oper} {l:List Oper}
variable {d ty:Nat} {pos:String} {af:Array Edge} {T:TypeId} {x y:Operand}
/-! ### Cells by lists -/
variable {T':TypeId} {fs:Array Field} {cs':List Value} {fz:Nat×Nat}
inductive Cut:List Value→Nat→List Value→Prop
 | nil {cs:List Value}:Cut cs 0 []
 | t {c:Value} {cs vs:List Value}:Cut cs 0 vs→Cut (c :: cs) 0 (c :: vs)
 | s {c:Value} {cs vs:List Value} {k:Nat}:Cut cs k vs→Cut (c :: cs) (k+1) vs
theorem Cut.get {cs vs:List Value} {k:Nat} (h:Cut cs k vs):∀ j v,vs[j]? = some v->cs[k+j]? = some v:=by
 induction h with
 | nil=>intro j v h; simp at h
 | t h D=>
  grind
 | s h D=>grind
inductive PutC:List Value→Nat→List Value→List Value→Prop
 | nil {cs:List Value}:PutC cs 0 [] cs
 | t {c v:Value} {cs vs cs':List Value}:PutC cs 0 vs cs'→PutC (c :: cs) 0 (v :: vs) (v :: cs')
 | s {c:Value} {cs vs cs':List Value} {k:Nat}:PutC cs k vs cs'→PutC (c :: cs) (k+1) vs (c :: cs')
theorem PutC.eq {cs vs:List Value} {k:Nat} (h:PutC cs k vs cs'):cs'=cs.take k++vs++cs.drop (k+vs.length)∧k+vs.length<=cs.length:=by
 induction h with
 | nil=>simp
 | t h D=>grind
 | s h D=>
  grind
def one (v:Value):Bool:=v.oneCell'
def OV:List Value->Bool
 | []=>true
 | v :: vs=>one v && OV vs
theorem XU {vs:List Value} (h:OV vs=true):∀ v∈vs,v.oneCell'=true:=by
 induction vs with
 | nil=>intro v D; cases D
 | cons u vs J=>
  simp only[OV,cE] at h;intro v D
  cases D with
  | head=>exact h.1
  | tail _ D=>exact J h.2 v D
theorem RW {b off:Nat} {v:Value} (D:∀ w,(isAgg T).run P w=.ok false w) (h:w.cell? ⟨b,off,none⟩=some v):(Instr.loadAt T (.pointer (some ⟨b,off,none⟩))).run P w=.ok v w:=by simp[Instr.loadAt,Instr.sureAddr,loadVar,D,h]
theorem LN {b off s:Nat} {vs:List Value} (U:∀ w,(isAgg T).run P w=.ok true w) (V:∀ w,(sizeOf T).run P w=.ok s w) (O:vs.length=s) (J:∀ j v,vs[j]? = some v->w.cell? ⟨b,off+j,none⟩=some v) :
  (Instr.loadAt T (.pointer (some ⟨b,off,none⟩))).run P w=.ok (.agg vs.toArray) w:=by
 subst O
 have h:=run_loadCells_list (P:=P) w ⟨b,off,none⟩ vs (λj v D=>by
  have:=J j v D;have e:(⟨b,off,none⟩:Addr).add j=⟨b,off+j,none⟩:=by unfold Addr.add; split <;> simp_all
  rw[e]; exact this)
 simp[Instr.loadAt,Instr.sureAddr,loadVar,U,V,h]
theorem NN {b off:Nat} {cs:Array Value} {t:TypeId} (h:w.heap[b]? = some (.cells cs t fz)):w.cell? ⟨b,off,none⟩=cs[off]?:=by simp[World.cell?,h]
theorem Ops.allocA {z:Array Value} (D:∀ w,(zeroValue T).run P w=.ok (.agg z) w) (O:Nat.blt d n.sz=true) (U:fresh E d=true)
  (k:∀ b,Ops P ops l n ((d,.pointer (some ⟨b,0,none⟩)) :: E) (Sym w0 M I0 I (pto b (.cells z T) :: m)) Q) :
  Ops P ops (⟨some d,.alloc T,ty,pos,af,none⟩ :: l) n E (Sym w0 M I0 I m) Q:=
 Ops.valx (λv w'=>∃ b,v=.pointer (some ⟨b,0,none⟩)∧Sym w0 M I0 I (pto b (.cells z T) :: m) w') rfl rfl
  (λa w _ h=>⟨.pointer (some ⟨w.heap.size,0,none⟩),w.alloc (.cells z T),by simp[execOp,Instr.alloc,D,newVar,newRow,Value.cells],_,rfl,h.alloc _⟩) O U
  (λv a w V ⟨b,J,h⟩=>by subst J; exact k b a w V h)
theorem Ops.alloc1 {z:Value} (D:∀ w,(zeroValue T).run P w=.ok z w) (J:one z=true) (U:Nat.blt d n.sz=true) (W:fresh E d=true)
  (k:∀ b,Ops P ops l n ((d,.pointer (some ⟨b,0,none⟩)) :: E) (Sym w0 M I0 I (pto b (.cells #[z] T) :: m)) Q) :
  Ops P ops (⟨some d,.alloc T,ty,pos,af,none⟩ :: l) n E (Sym w0 M I0 I m) Q:=
 Ops.valx (λv w'=>∃ b,v=.pointer (some ⟨b,0,none⟩)∧Sym w0 M I0 I (pto b (.cells #[z] T) :: m) w') rfl rfl
  (λa w _ h=>⟨.pointer (some ⟨w.heap.size,0,none⟩),w.alloc (.cells #[z] T),by
   have V:z.cells = #[z]:=by cases z <;> first | rfl | cases J
   simp[execOp,Instr.alloc,D,newVar,newRow,V],_,rfl,h.alloc _⟩) U W
  (λv a w Z ⟨b,O,h⟩=>by subst O; exact k b a w Z h)
theorem Ops.boxA {z:Array Value} (U:ev E x=some (.agg z)) (O:Nat.blt d n.sz=true) (V:fresh E d=true)
  (k:∀ b,Ops P ops l n ((d,.pointer (some ⟨b,0,none⟩)) :: E) (Sym w0 M I0 I (pto b (.cells z T) :: m)) Q) :
  Ops P ops (⟨some d,.box T x,ty,pos,af,none⟩ :: l) n E (Sym w0 M I0 I m) Q:=
 Ops.valx (λv w'=>∃ b,v=.pointer (some ⟨b,0,none⟩)∧Sym w0 M I0 I (pto b (.cells z T) :: m) w') rfl rfl
  (λa w D h=>⟨.pointer (some ⟨w.heap.size,0,none⟩),w.alloc (.cells z T),by simp[execOp,Instr.box,D.eval U,newVar,newRow,Value.cells],_,rfl,h.alloc _⟩) O V
  (λv a w D ⟨b,J,h⟩=>by subst J; exact k b a w D h)
theorem Ops.box1 {z:Value} (V:ev E x=some z) (J:one z=true) (U:Nat.blt d n.sz=true) (Z:fresh E d=true)
  (k:∀ b,Ops P ops l n ((d,.pointer (some ⟨b,0,none⟩)) :: E) (Sym w0 M I0 I (pto b (.cells #[z] T) :: m)) Q) :
  Ops P ops (⟨some d,.box T x,ty,pos,af,none⟩ :: l) n E (Sym w0 M I0 I m) Q:=
 Ops.valx (λv w'=>∃ b,v=.pointer (some ⟨b,0,none⟩)∧Sym w0 M I0 I (pto b (.cells #[z] T) :: m) w') rfl rfl
  (λa w D h=>⟨.pointer (some ⟨w.heap.size,0,none⟩),w.alloc (.cells #[z] T),by
   have W:z.cells = #[z]:=by cases z <;> first | rfl | cases J
   simp[execOp,Instr.box,D.eval V,newVar,newRow,W],_,rfl,h.alloc _⟩) U Z
  (λv a w D ⟨b,O,h⟩=>by subst O; exact k b a w D h)
theorem Ops.fa {i:Nat} {f:Field} {b off o s:Nat} (J:P.underlying T=some (.struct fs)) (hi:fs[i]? = some f) (O:∀ w,(sizeOf f.type).run P w=.ok (s+1) w)
  (V:ev E x=some (.pointer (some ⟨b,off,none⟩))) (W:off+f.offset=o) {S:World->Prop} (U:Nat.blt d n.sz=true) (h:fresh E d=true) (k:Ops P ops l n ((d,.pointer (some ⟨b,o,none⟩)) :: E) S Q) :
  Ops P ops (⟨some d,.fieldAddr T x i,ty,pos,af,none⟩ :: l) n E S Q:=
 Ops.val rfl rfl (λ_ w D _=>by
  have e:(⟨b,off,none⟩:Addr).add f.offset=⟨b,o,none⟩:=by rw[<-W]; unfold Addr.add; split <;> simp_all
  simp[execOp,D.eval V,Instr.fieldAt,run_underlying J,hi,Instr.sureAddr,fieldPlace,O,e]) U h k
theorem Ops.load1 {b off:Nat} {cs:List Value} {v:Value} (D:∀ w,(isAgg T).run P w=.ok false w) (V:ev E x=some (.pointer (some ⟨b,off,none⟩)))
  (J:Del m (pto b (.cells cs.toArray T' fz)) m') (W:cs[off]? = some v) (O:Nat.blt d n.sz=true) (Z:fresh E d=true) (k:Ops P ops l n ((d,v) :: E) (Sym w0 M I0 I m) Q) :
  Ops P ops (⟨some d,.load T x,ty,pos,af,none⟩ :: l) n E (Sym w0 M I0 I m) Q:=
 Ops.val rfl rfl (λ_ w ho U=>by have h:=(U.del J).pto;simp[execOp,ho.eval V,RW (P:=P) D ((NN h).trans (by simpa using W))]) O Z k
theorem Ops.loadA {b off s:Nat} {cs vs:List Value} (U:∀ w,(isAgg T).run P w=.ok true w) (hS:∀ w,(sizeOf T).run P w=.ok s w) (hx:ev E x=some (.pointer (some ⟨b,off,none⟩)))
  (V:Del m (pto b (.cells cs.toArray T' fz)) m') (D:Cut cs off vs) (O:vs.length=s) (Z:Nat.blt d n.sz=true) (J:fresh E d=true) (k:Ops P ops l n ((d,.agg vs.toArray) :: E) (Sym w0 M I0 I m) Q) :
  Ops P ops (⟨some d,.load T x,ty,pos,af,none⟩ :: l) n E (Sym w0 M I0 I m) Q:=
 Ops.val rfl rfl (λ_ w ho hs=>by have h:=(hs.del V).pto;simp[execOp,ho.eval hx,LN (P:=P) U hS O (λj v W=>(NN h).trans (by simpa using D.get j v W))]) Z J k
theorem Ops.loadW {b s:Nat} {cs:List Value} (O:∀ w,(isAgg T).run P w=.ok true w) (hS:∀ w,(sizeOf T).run P w=.ok s w) (hx:ev E x=some (.pointer (some ⟨b,0,none⟩)))
  (U:Del m (pto b (.cells cs.toArray T' fz)) m') (J:cs.length=s) (W:Nat.blt d n.sz=true) (D:fresh E d=true) (k:Ops P ops l n ((d,.agg cs.toArray) :: E) (Sym w0 M I0 I m) Q) :
  Ops P ops (⟨some d,.load T x,ty,pos,af,none⟩ :: l) n E (Sym w0 M I0 I m) Q:=
 Ops.val rfl rfl (λ_ w ho Z=>by have h:=(Z.del U).pto;simp[execOp,ho.eval hx,LN (P:=P) O hS J (λj _ V=>(NN (off:=0+j) h).trans (by rw[jH]; simpa using V))]) W D k
theorem setRow_other {g i:Nat} {c:Array Value} (h:i≠g):(w.setRow g c).heap[i]? = w.heap[i]?:=by simp only[World.setRow,AoM];rw[if_neg (by omega)]
theorem Sym.store {b off:Nat} {cs vs:List Value} (h:Sym w0 M I0 I (Fw.pto b (.cells cs.toArray T' (0,0)) :: m) w) (hp:PutC cs off vs cs') (J:OV vs=true) :
  ∃ w',(storeCells ⟨b,off,none⟩ vs).run P w=.ok () w'∧Sym w0 M I0 I (Fw.pto b (.cells cs'.toArray T' (0,0)) :: m) w':=by
 have⟨U,V⟩:=hp.eq;have D:=h.pto;have O:=run_storeCells_at (P:=P) b off T' vs 0 cs.toArray w D (by simpa using V) (XU J);refine⟨_,O,h.upd rfl rfl rfl rfl (by simp[World.setRow]) (λ_ hk=>setRow_other hk) ?_⟩;rw[setRow_heap w b _ _ T' _ D];simp[U]
theorem Sym.reAt {A B:HA} (J:At m A m' B) (h:Sym w0 M I0 I m w) {w':World} (O:∀ r,Sym w0 M I0 I (A :: r) w->Sym w0 M I0 I (B :: r) w'):Sym w0 M I0 I m' w':=by have⟨r,D,U⟩:=J.del;exact(O r (h.del D)).undel U
theorem Ops.storeA {b off s:Nat} {cs vs:List Value} (hS:∀ w,(sizeOf T).run P w=.ok s w) (hx:ev E x=some (.pointer (some ⟨b,off,none⟩))) (Z:ev E y=some (.agg vs.toArray))
  (hA:At m (pto b (.cells cs.toArray T' (0,0))) m' (pto b (.cells cs'.toArray T' (0,0)))) (O:PutC cs off vs cs') (W:vs.length=s) (J:OV vs=true)
  (k:Ops P ops l n E (Sym w0 M I0 I m') Q):Ops P ops (⟨none,.store T x y,ty,pos,af,none⟩ :: l) n E (Sym w0 M I0 I m) Q:=
 Ops.act rfl rfl (λ_ w D hs=>by have⟨_,V,h3⟩:=hA.del;have⟨w',U,h⟩:=(hs.del V).store (P:=P) O J;refine⟨w',?_,h.undel h3⟩;simp[execOp,D.eval hx,D.eval Z,Instr.storeAt,Instr.sureAddr,storeVar,hS,Value.cells,W,U]) k
theorem Ops.store1 {b off:Nat} {cs:List Value} {v:Value} (hS:∀ w,(sizeOf T).run P w=.ok 1 w) (hx:ev E x=some (.pointer (some ⟨b,off,none⟩))) (Z:ev E y=some v)
  (hA:At m (pto b (.cells cs.toArray T' (0,0))) m' (pto b (.cells cs'.toArray T' (0,0)))) (U:PutC cs off [v] cs') (J:one v=true)
  (k:Ops P ops l n E (Sym w0 M I0 I m') Q):Ops P ops (⟨none,.store T x y,ty,pos,af,none⟩ :: l) n E (Sym w0 M I0 I m) Q:=
 Ops.act rfl rfl (λ_ w O hs=>by
  have⟨_,W,h3⟩:=hA.del;have⟨w',V,D⟩:=(hs.del W).store (P:=P) U (by simp[OV,J]);refine⟨w',?_,D.undel h3⟩;have h:v.cells = #[v]:=by cases v <;> first | rfl | cases J
  simp[execOp,O.eval hx,O.eval Z,Instr.storeAt,Instr.sureAddr,storeVar,hS,h,V]) k
def ImC (I:IH) (b off:Nat) (cs:List Value):Prop:=∃ c t fz,I b=some (.cells c t fz)∧∀ j v,cs[j]? = some v->c[off+j]? = some v
theorem ImC.mono {I J:IH} {b off:Nat} {cs:List Value} (h:ImC I b off cs) (D:I.le J):ImC J b off cs:=by have⟨c,t,fz,O,U⟩:=h;exact⟨c,t,fz,D _ _ O,U⟩
theorem ImC.cell {b off j:Nat} {cs:List Value} {v:Value} (h:ImC I b off cs) (O:Sym w0 M I0 I m w) (J:cs[j]? = some v):w.cell? ⟨b,off+j,none⟩=some v:=by have⟨_,_,_,D,U⟩:=h;rw[NN (O.imm _ _ D)];exact U j v J
theorem Ops.ld1 {b off o j:Nat} {cs:List Value} {v:Value} (U:∀ w,(isAgg T).run P w=.ok false w) (h:ImC I b off cs) (Z:ev E x=some (.pointer (some ⟨b,o,none⟩))) (ho:o=off+j) (D:cs[j]? = some v)
  (V:Nat.blt d n.sz=true) (J:fresh E d=true) (k:Ops P ops l n ((d,v) :: E) (Sym w0 M I0 I m) Q) :
  Ops P ops (⟨some d,.load T x,ty,pos,af,none⟩ :: l) n E (Sym w0 M I0 I m) Q:=
 Ops.val rfl rfl (λ_ w O W=>by subst ho;simp[execOp,O.eval Z,RW (P:=P) U (h.cell W D)]) V J k
theorem Ops.ldW {b off s:Nat} {cs:List Value} (U:∀ w,(isAgg T).run P w=.ok true w) (hS:∀ w,(sizeOf T).run P w=.ok s w) (h:ImC I b off cs) (Z:ev E x=some (.pointer (some ⟨b,off,none⟩)))
  (J:cs.length=s) (V:Nat.blt d n.sz=true) (D:fresh E d=true) (k:Ops P ops l n ((d,.agg cs.toArray) :: E) (Sym w0 M I0 I m) Q) :
  Ops P ops (⟨some d,.load T x,ty,pos,af,none⟩ :: l) n E (Sym w0 M I0 I m) Q:=
 Ops.val rfl rfl (λ_ w O W=>by simp[execOp,O.eval Z,LN (P:=P) U hS J (λ_ _ hi=>h.cell W hi)]) V D k
theorem Ops.field1 {i:Nat} {f:Field} {cs:List Value} {v:Value} {S:World->Prop} (D:P.underlying T=some (.struct fs)) (hi:fs[i]? = some f) (J:∀ w,(isAgg f.type).run P w=.ok false w)
  (U:ev E x=some (.agg cs.toArray)) (W:cs[f.offset]? = some v) (O:Nat.blt d n.sz=true) (V:fresh E d=true) (k:Ops P ops l n ((d,v) :: E) S Q) :
  Ops P ops (⟨some d,.field T x i,ty,pos,af,none⟩ :: l) n E S Q:=
 Ops.val rfl rfl (λ_ w h _=>by simp[execOp,h.eval U,Instr.field,run_underlying D,hi,asAgg,part,J,W]) O V k
def cellsOf:Value->List Value
 | .agg cs=>cs.toList
 | v=>[v]
theorem U3 (v:Value):v.cells=(cellsOf v).toArray:=by cases v <;> simp[Value.cells,cellsOf]
inductive pK (fs:Array Field) (E:DH):List Value→List (Nat×Operand)→List Value→Prop
 | n {z:List Value}:pK fs E z [] z
 | c {z z' cs vs:List Value} {i:Nat} {x:Operand} {r:List (Nat×Operand)} {f:Field} {v:Value} (hi:fs[i]? = some f) (hx:ev E x=some v) (hv:cellsOf v=vs) (hp:PutC z f.offset vs z') (k:pK fs E z' r cs) :
  pK fs E z ((i,x) :: r) cs
theorem lS:∀ (vs:List Value) (off j:Nat) (z:Array Value),off+j+vs.length<=z.size ->
  ((vs.zipIdx j).foldl (λcs (p:Value×Nat)=>cs.setIfInBounds (off+p.2) p.1) z)=(z.toList.take (off+j)++vs++z.toList.drop (off+j+vs.length)).toArray
 | [],off,j,z,_=>by simp
 | v :: vs,off,j,z,h=>by simp only[uP] at h;rw[List.zipIdx_cons,cF,lS vs off (j+1) _ (by simp; omega)];congr 1;have e:=list_seg_step z.toList (off+j) v vs (by simp; omega);grind
theorem At7 {places:Array (Nat×Nat)} (O:∀ (i:Nat) (f:Field),fs[i]? = some f->∃ s,places[i]? = some (f.offset,s)) {ev':Operand->Value} :
  ∀ {z:List Value} {r:List (Nat×Operand)} {cs:List Value},pK fs E z r cs->(∀ x v,ev E x=some v->ev' x=v) ->
   (∀ (i:Nat) (x:Operand) (f:Field) (s:Nat),(i,x)∈r->fs[i]? = some f->places[i]? = some (f.offset,s)->(cellsOf (ev' x)).length=s) ->
   Instr.fill (places[·]?) z.toArray (r.map λp=>(p.1,ev' p.2))=some cs.toArray:=by
 intro z r cs h
 induction h with
 | n=>intros; rfl
 | @c z W cs vs i x r f v hi hx V hp k ih=>
  intro Z hs;have⟨s,J⟩:=O i f hi;have D:=hs i x f s (by simp) hi J;rw[Z x v hx,V] at D;have⟨U,_⟩:=hp.eq;have e1:(ev' x).cells=vs.toArray:=by grind[U3]
  simp only[OU,Instr.fill,J,e1];rw[if_neg (by simp; omega)]
  have e2:vs.toArray.zipIdx.foldl (λcs (p:Value×Nat)=>cs.setIfInBounds (f.offset+p.2) p.1) z.toArray=W.toArray:=by rw[<-AjH,AoP];rw[lS vs f.offset 0 z.toArray (by simp; omega)];simp[U]
  grind
def AbW (P:Program) (E:DH) (fs:Array Field):List (Nat×Operand)->Prop
 | []=>True
 | p :: r=>(∃ f v,fs[p.1]? = some f∧ev E p.2=some v∧P.cellsOf f.type=(cellsOf v).length)∧AbW P E fs r
theorem AhO {fs:List Field}:∀ w,(∀ f∈fs,(P.info? f.type).isSome=true) ->
  (fs.mapM λf=>(do pure (f.offset,<-sizeOf f.type):Sem (Nat×Nat))).run P w=.ok (fs.map λf=>(f.offset,P.cellsOf f.type)) w:=by
 induction fs with
 | nil=>intro w _; rfl
 | cons f fs J=>
  intro w h
  have D:(sizeOf f.type).run P w=.ok (P.cellsOf f.type) w:=by have⟨_,hi⟩:=Option.isSome_iff_exists.1 (h f (by simp));simp[sizeOf,typeInfo,hi,Program.cellsOf]
  simp_all
theorem AeI (h:∀ f∈fs.toList,(P.info? f.type).isSome=true) (w:World) :
  (fs.mapM λf=>(do pure (f.offset,<-sizeOf f.type):Sem (Nat×Nat))).run P w=.ok (fs.toList.map λf=>(f.offset,P.cellsOf f.type)).toArray w:=by
 rw[Av9];have:=AhO (P:=P) w h;simp_all
theorem Ops.build {S:World->Prop} {z:List Value} {h:List (Nat×Operand)} {cs:List Value} (Z:∀ w,(zeroValue T).run P w=.ok (.agg z.toArray) w) (W:P.underlying T=some (.struct fs))
  (hI:(P.fieldsOf T).toList.all (λf=>(P.info? f.type).isSome)=true) (U:pK fs E z h cs) (hS:AbW P E fs h) (hb:Nat.blt d n.sz=true) (hf:fresh E d=true) (k:Ops P ops l n ((d,.agg cs.toArray) :: E) S Q) :
  Ops P ops (⟨some d,.build T h.toArray,ty,pos,af,none⟩ :: l) n E S Q:=
 Ops.val rfl rfl (λa w V _=>by
  have D:=At7 (places:=(fs.toList.map λf=>(f.offset,P.cellsOf f.type)).toArray) (E:=E) (ev':=a.eval) (λi f hi=>⟨P.cellsOf f.type,by
    have:fs.toList[i]? = some f:=by simpa using hi
    simp[this]⟩) U (λx v hx=>V.eval hx) (λi x f s J hi _=>by
    have hs:P.cellsOf f.type=s:=by grind
    rw[<-hs];clear U k
    induction h with
    | nil=>cases J
    | cons p r ih=>
     have⟨⟨_,v,h1,h2,h3⟩,h4⟩:=hS
     cases J with
     | head=>rw[V.eval h2]; rw[hi] at h1; cases h1; exact h3.symm
     | tail _ J=>exact ih h4 J)
  have O:∀ f∈fs.toList,(P.info? f.type).isSome=true:=by
   have e0:P.fieldsOf T=fs:=by simp[Program.fieldsOf,W]
   grind
  simp only[execOp,Instr.build,Sem.run_bind,Z,Result.andThen_ok,run_underlying W,Value.cells,AeI O];have e:(Array.map (λ(x:Nat×Operand)=>(x.1,a.eval x.2)) h.toArray).toList=h.map λp=>(p.1,a.eval p.2):=by simp
  rw[show(Array.map (λx=>match x with | (i,x)=>(i,a.eval x)) h.toArray).toList=h.map λp=>(p.1,a.eval p.2) from e,D];simp) hb hf k
end
section
variable {w0 w:World} {M:Nat→Prop} {I0 I:IH} {m m':List HA}
variable {P:Program} {n:FrK} {E:DH} {Q:Exit→Act→World→Prop} {ops:Array Oper} {l:List Oper}
variable {d ty:Nat} {pos:String} {af:Array Edge} {T e:TypeId} {x y:Operand}
variable {T':TypeId}
structure EE (α:Type) where
 sz:Nat
 rep:IH→List Value→α→Prop
 mono:∀ {I J:IH} {cs:List Value} {x:α},I.le J→rep I cs x→rep J cs x
 len:∀ {I:IH} {cs:List Value} {x:α},rep I cs x→cs.length=sz
 one:∀ {I:IH} {cs:List Value} {x:α},rep I cs x→OV cs=true
def LP {α:Type} (sz:Nat) (enc:α->List Value) (h:∀ x,(enc x).length=sz∧OV (enc x)=true):EE α where
 sz:=sz
 rep _ cs x:=cs=enc x
 mono _ h:=h
 len h':=by rw[h']; exact(h _).1
 one h':=by rw[h']; exact(h _).2
variable {α:Type} {El:EE α} {xs ys:List α} {a:Option Addr} {cap:Nat}
def RepSl (El:EE α) (I:IH) (a:Option Addr) (cap:Nat) (xs:List α):Prop:=
 xs.length<=cap∧∀ i x,xs[i]? = some x->∃ b off cs,a=some ⟨b,off,none⟩∧ImC I b (off+i*El.sz) cs∧El.rep I cs x
theorem RepSl.mono {J:IH} (h:RepSl El I a cap xs) (D:I.le J):RepSl El J a cap xs:=
 ⟨h.1,λi x V=>let ⟨b,off,cs,O,W,U⟩:=h.2 i x V; ⟨b,off,cs,O,W.mono D,El.mono D U⟩⟩
theorem RepSl.nil (I:IH) (a:Option Addr) (cap:Nat):RepSl El I a cap []:=⟨Aa9 _,λ_ _ h=>by simp at h⟩
def gO (El:EE α):EE (List α) where
 sz:=1
 rep I cs xs:=∃ a cap,cs=[.slice a xs.length cap]∧RepSl El I a cap xs
 mono hle:=λ⟨a,cap,h1,h2⟩=>⟨a,cap,h1,h2.mono hle⟩
 len:=λ⟨a,cap,h1,_⟩=>by rw[h1]; rfl
 one:=λ⟨a,cap,h1,_⟩=>by rw[h1]; rfl
def OwnSl (El:EE α) (T:TypeId) (a:Option Addr) (cap:Nat) (xs:List α):HA where
 holds I h:=(a=none∧xs=[]∧cap=0)∨∃ b c,a=some ⟨b,0,none⟩∧h b=some (.cells c T (0,0))∧xs.length<=cap∧c.size=cap*El.sz ∧
  ∀ i x,xs[i]? = some x->∃ cs,El.rep I cs x∧∀ j v,cs[j]? = some v->c[i*El.sz+j]? = some v
 mono:=λhI hh=>fun
  | .inl h=>.inl h
  | .inr ⟨b,c,h1,h2,h3,h4,h5⟩=>.inr ⟨b,c,h1,hh _ _ h2,h3,h4,λi x hx=>let ⟨cs,g1,g2⟩:=h5 i x hx; ⟨cs,El.mono hI g1,g2⟩⟩
theorem Sym.own0 (h:Sym w0 M I0 I m w) (El:EE α) (T:TypeId):Sym w0 M I0 I (OwnSl El T none 0 [] :: m) w:=by have⟨O,hi,V,k,U,hk,D,J⟩:=h;exact⟨O,hi,V,k,⟨λ_=>none,k,λ_=>.inl rfl,(λ_ _ x=>nomatch x),IH.le.refl _,.inl ⟨rfl,rfl,rfl⟩,U⟩,hk,D,J⟩
theorem Sym.pubSl (h:Sym w0 M I0 I m w) (hA:Del m (OwnSl El T a cap xs) m'):∃ D,I.le D∧RepSl El D a cap xs∧Sym w0 M I0 D m' w:=by
 have⟨D,_,J,ha,hk,hs⟩:=(h.del hA).publish;refine⟨D,J,?_,hs⟩;rcases ha with⟨U,O,V⟩ | ⟨b,c,U,O,V,h4,Z⟩
 . subst O; exact .nil _ _ _
 . refine⟨V,λi x hx=>?_⟩;have⟨cs,W,g2⟩:=Z i x hx;exact⟨b,0,cs,U,⟨c,T,(0,0),hk _ _ O,λj v hj=>by rw[jH]; exact g2 j v hj⟩,El.mono J W⟩
theorem Ops.len {S:World->Prop} {k:Nat} {h:Array TypeId} (J:P.underlying T=some (.slice e)) (D:h[0]? = some T) (V:ev E x=some (.slice a k cap)) (O:Nat.blt d n.sz=true) (W:fresh E d=true)
  (U:Ops P ops l n ((d,.int .i64 (k:Int)) :: E) S Q):Ops P ops (⟨some d,.call ⟨.builtin .len,#[x],h⟩,ty,pos,af,none⟩ :: l) n E S Q:=
 Ops.val rfl rfl (λ_ _ Z _=>by simp[execOp,resolve,invoke,builtin,Builtin.len_,Z.eval V,D,run_underlying J,goInt]) O W U
theorem Ops.capOf {S:World->Prop} {k:Nat} {h:Array TypeId} (J:P.underlying T=some (.slice e)) (D:h[0]? = some T) (V:ev E x=some (.slice a k cap)) (O:Nat.blt d n.sz=true) (W:fresh E d=true)
  (U:Ops P ops l n ((d,.int .i64 (cap:Int)) :: E) S Q):Ops P ops (⟨some d,.call ⟨.builtin .cap,#[x],h⟩,ty,pos,af,none⟩ :: l) n E S Q:=
 Ops.val rfl rfl (λ_ _ Z _=>by simp[execOp,resolve,invoke,builtin,Builtin.cap_,Z.eval V,D,run_underlying J,goInt]) O W U
theorem Ops.ixa {S:World->Prop} {k s off b:Nat} {q:IntKind} {i:Int} (W:P.underlying T=some (.slice e)) (hs:∀ w,(sizeOf e).run P w=.ok s w) (hx:ev E x=some (.slice a k cap)) (V:a=some ⟨b,off,none⟩)
  (Z:ev E y=some (.int q i)) (O:0<=i) (hk:i<k) (hb:Nat.blt d n.sz=true) (J:fresh E d=true) (D:Ops P ops l n ((d,.pointer (some ⟨b,off+i.toNat*s,none⟩)) :: E) S Q) :
  Ops P ops (⟨some d,.indexAddr T x y,ty,pos,af,none⟩ :: l) n E S Q:=
 Ops.val rfl rfl (λ_ w h _=>by
  subst V;have U:(⟨b,off,none⟩:Addr).add (i.toNat*s)=⟨b,off+i.toNat*s,none⟩:=by unfold Addr.add; split <;> simp_all
  simp only[execOp,Instr.indexAt,h.eval hx,h.eval Z,asIntOf,Sem.run_bind,Sem.run_pure,Result.andThen_ok,run_underlying W,O,hk,and_self,if_true,hs,U]) hb J D
theorem OwnSl.cell {enc:α->List Value} {s:Nat} {U:∀ x,(enc x).length=s∧OV (enc x)=true} {b:Nat} (h:Sym w0 M I0 I m w) (Z:Del m (OwnSl (LP s enc U) T' (some ⟨b,0,none⟩) cap xs) m') {i j:Nat} {v:α} {u:Value}
   (hi:xs[i]? = some v) (hj:(enc v)[j]? = some u):w.cell? ⟨b,i*s+j,none⟩=some u:=by
 have⟨_,W,hk⟩:=(h.del Z).get;rcases W with⟨D,_⟩ | ⟨b',c,D,V,h3,h4,O⟩
 . cases D
 . cases D;have⟨_,J,g2⟩:=O i v hi;cases J;rw[NN (hk _ _ V)];exact g2 j u hj
theorem Ops.lo1 {enc:α->List Value} {s:Nat} {D:∀ x,(enc x).length=s∧OV (enc x)=true} {b o i j:Nat} {v:α} {u:Value} (O:∀ w,(isAgg T).run P w=.ok false w)
  (U:Del m (OwnSl (LP s enc D) T' (some ⟨b,0,none⟩) cap xs) m') (hi:xs[i]? = some v) (hx:ev E x=some (.pointer (some ⟨b,o,none⟩))) (ho:o=i*s+j) (V:(enc v)[j]? = some u)
  (W:Nat.blt d n.sz=true) (J:fresh E d=true) (k:Ops P ops l n ((d,u) :: E) (Sym w0 M I0 I m) Q):Ops P ops (⟨some d,.load T x,ty,pos,af,none⟩ :: l) n E (Sym w0 M I0 I m) Q:=
 Ops.val rfl rfl (λ_ w h Z=>by subst ho; simp[execOp,h.eval hx,RW (P:=P) O (OwnSl.cell Z U hi V)]) W J k
theorem Ops.loA {enc:α->List Value} {s D:Nat} {O:∀ x,(enc x).length=s∧OV (enc x)=true} {b o i j:Nat} {v:α} {vs:List Value} (Z:∀ w,(isAgg T).run P w=.ok true w)
  (hS:∀ w,(sizeOf T).run P w=.ok D w) (hA:Del m (OwnSl (LP s enc O) T' (some ⟨b,0,none⟩) cap xs) m') (hi:xs[i]? = some v) (hx:ev E x=some (.pointer (some ⟨b,o,none⟩))) (ho:o=i*s+j)
  (hj:Cut (enc v) j vs) (W:vs.length=D) (hb:Nat.blt d n.sz=true) (U:fresh E d=true) (k:Ops P ops l n ((d,.agg vs.toArray) :: E) (Sym w0 M I0 I m) Q) :
  Ops P ops (⟨some d,.load T x,ty,pos,af,none⟩ :: l) n E (Sym w0 M I0 I m) Q:=
 Ops.val rfl rfl (λ_ w J hs=>by subst ho;simp[execOp,J.eval hx,LN (P:=P) Z hS W (λV v' h=>by rw[Aa5]; exact OwnSl.cell hs hA hi (hj.get V v' h))]) hb U k
theorem OwnSl.put {El:EE α} {b:Nat} {i j:Nat} {v v':α} {vs:List Value} {r:List HA} (a2:Sym w0 M I0 I (OwnSl El T' (some ⟨b,0,none⟩) cap xs :: r) w)
   (hi:xs[i]? = some v) (hp:∀ cs,El.rep I cs v->∃ J,PutC cs j vs J∧El.rep I J v') (h1:OV vs=true) :
   ∃ w',(storeCells ⟨b,i*El.sz+j,none⟩ vs).run P w=.ok () w'∧Sym w0 M I0 I (OwnSl El T' (some ⟨b,0,none⟩) cap (xs.set i v') :: r) w':=by
 have⟨hb,a7,hn,k,⟨k1,k2,hd',hl1,hl2,ha,hs'⟩,hk,hdj,hm⟩:=a2;rcases ha with⟨Z,_⟩ | ⟨b',c,Z,h2,h3,h4,h5⟩
 . cases Z
 . cases Z;have U:Sym w0 M I0 I (Fw.pto b (.cells c T' (0,0)) :: r) w:=⟨hb,a7,hn,k,⟨k1,k2,hd',hl1,hl2,h2,hs'⟩,hk,hdj,hm⟩;have⟨cs,g1,g2⟩:=h5 i v hi;have⟨J,a8,a9⟩:=hp cs g1;have⟨he,_⟩:=a8.eq;have b0:=El.len g1;have a5:i<xs.length:=(List.getElem?_eq_some_iff.1 hi).1
   have c0:i*El.sz+El.sz<=cap*El.sz:=by
     have:(i+1)*El.sz<=cap*El.sz:=uM _ (by omega)
     rwa [XT,AbV] at this
   have hr:=run_storeCells_at (P:=P) b (i*El.sz+j) T' vs 0 c w U.pto (by omega) (XU h1);refine⟨_,hr,?_⟩;have a6:=U.upd (o':=.cells (c.toList.take (i*El.sz+j+0)++vs++c.toList.drop (i*El.sz+j+0+vs.length)).toArray T' (0,0)) (w':=w.setRow b _) rfl rfl rfl rfl (by simp[World.setRow]) (λq hq=>Fw.setRow_other hq) (setRow_heap w b _ _ T' _ U.pto);refine a6.weaken λq hq=>.inr ⟨b,_,rfl,hq,by simpa using h3,?_,?_⟩
   . simp; omega
   . intro h x2 O;by_cases e2:i=h
     . subst e2;rw[AlU a5] at O;cases O;refine⟨J,a9,λV u D=>?_⟩;rw[he] at D;simp only[gM,Ae6];rcases Z1 V j with h6 | h6
       . rw[lL,lN (by simp; omega)] at D;rw[lL,lN (by simp; omega),yN,if_pos (by omega)];rw[yN,if_pos h6] at D;simpa using g2 V u D
       . rcases Z1 V (j+vs.length) with h7 | h7
         . rw[lN (by simp; omega),yL (by simp; omega)] at D ⊢;simp only[VK,AhF] at D ⊢;rw[<-D]; congr 1; omega
         . rw[yL (by simp; omega),AoE] at D ⊢;simp only[bL,VK,AhF] at D ⊢;have:=g2 V u (by rw[<-D]; congr 1; omega);rw[<-At5] at this;rw[<-this]; congr 1; omega
     . rw[AhE e2] at O;have⟨a4,g3,g4⟩:=h5 h x2 O;refine⟨a4,g3,λV u D=>?_⟩;have b1:V<El.sz:=by rw[<-El.len g3]; exact(List.getElem?_eq_some_iff.1 D).1
       have h8:=g4 V u D;rw[<-At5] at h8;simp only[gM,Ae6];rcases Nat.lt_or_gt_of_ne e2 with h9 | h9
       . have W:(i+1)*El.sz<=h*El.sz:=uM _ h9;rw[XT,AbV] at W;rw[yL (by simp; omega),AoE,<-h8];simp only[bL,VK,AhF];congr 1; omega
       . have W:(h+1)*El.sz<=i*El.sz:=uM _ h9;rw[XT,AbV] at W;rw[lL,lN (by simp; omega),yN,if_pos (by omega),h8]
theorem Ops.stO1 {enc:α→List Value} {s:Nat} {W:∀ x,(enc x).length=s∧OV (enc x)=true} {b o i j:Nat} {v v':α} {u:Value} (hS:∀ w,(sizeOf T).run P w=.ok 1 w)
  (hA:At m (OwnSl (LP s enc W) T' (some ⟨b,0,none⟩) cap xs) m' (OwnSl (LP s enc W) T' (some ⟨b,0,none⟩) cap (xs.set i v'))) (hi:xs[i]? = some v) (hx:ev E x=some (.pointer (some ⟨b,o,none⟩))) (ho:o=i*s+j)
  (hy:ev E y=some u) (hp:PutC (enc v) j [u] (enc v')) (U:Fw.one u=true) (k:Ops P ops l n E (Sym w0 M I0 I m') Q):Ops P ops (⟨none,.store T x y,ty,pos,af,none⟩ :: l) n E (Sym w0 M I0 I m) Q:=
 Ops.act rfl rfl (fun _ w V hs=>by
  subst ho
  obtain ⟨_,Z,h3⟩:=hA.del
  obtain ⟨w',hr,D⟩:=OwnSl.put (P:=P) (hs.del Z) hi (fun _ h=>by cases h; exact ⟨_,hp,rfl⟩) (by simp [OV,U])
  refine ⟨w',?_,D.undel h3⟩
  have J:u.cells = #[u]:=by cases u <;> first | rfl | cases U
  have O:(storeCells ⟨b,i*s+j,none⟩ [u]).run P w=.ok () w':=hr
  simp [execOp,V.eval hx,V.eval hy,Instr.storeAt,Instr.sureAddr,storeVar,hS,J,O]) k
theorem Ops.stOA {enc:α→List Value} {s U:Nat} {W:∀ x,(enc x).length=s∧OV (enc x)=true} {b o i j:Nat} {v v':α} {h:List Value} (hS:∀ w,(sizeOf T).run P w=.ok U w)
  (hA:At m (OwnSl (LP s enc W) T' (some ⟨b,0,none⟩) cap xs) m' (OwnSl (LP s enc W) T' (some ⟨b,0,none⟩) cap (xs.set i v'))) (hi:xs[i]? = some v) (hx:ev E x=some (.pointer (some ⟨b,o,none⟩))) (ho:o=i*s+j)
  (hy:ev E y=some (.agg h.toArray)) (hp:PutC (enc v) j h (enc v')) (hl:h.length=U) (Z:OV h=true) (k:Ops P ops l n E (Sym w0 M I0 I m') Q):Ops P ops (⟨none,.store T x y,ty,pos,af,none⟩ :: l) n E (Sym w0 M I0 I m) Q:=
 Ops.act rfl rfl (fun _ w V hs=>by
  subst ho
  obtain ⟨_,h2,h3⟩:=hA.del
  obtain ⟨w',hr,J⟩:=OwnSl.put (P:=P) (hs.del h2) hi (fun _ D=>by cases D; exact ⟨_,hp,rfl⟩) Z
  refine ⟨w',?_,J.undel h3⟩
  have O:(storeCells ⟨b,i*s+j,none⟩ h).run P w=.ok () w':=hr
  simp [execOp,V.eval hx,V.eval hy,Instr.storeAt,Instr.sureAddr,storeVar,hS,Value.cells,hl,O]) k
end
section
variable {w0 w:World} {M:Nat→Prop} {I0 I:IH} {m m':List HA}
variable {P:Program} {n:FrK} {E:DH} {Q:Exit→Act→World→Prop} {ops:Array Oper} {l:List Oper}
variable {d ty:Nat} {pos:String} {af:Array Edge} {T e:TypeId} {x y:Operand}
variable {α:Type} {El:EE α} {xs ys:List α} {a:Option Addr} {cap:Nat}
/-! ### s[lo:hi] -/
variable {T' sT e':TypeId} {zc:Value}
def oev (E:DH):Option Operand->Option (Option Value)
 | none=>some none
 | some x=>match ev E x with | some v=>some (some v) | none=>none
theorem OW {c:Act} (D:Ok n E c) {x:Option Operand} {v:Option Value} (h:oev E x=some v):x.map c.eval=v:=by
 cases x with
 | none=>simp[oev] at h; simp[h]
 | some x=>
  simp only[oev] at h
  cases J:ev E x with
  | none=>rw[J] at h; cases h
  | some u=>rw[J] at h; cases h; simp[D.eval J]
theorem RepSl.slice (h:RepSl El I a cap xs) {lo hi:Nat} (V:lo<=hi) (W:hi<=xs.length):RepSl El I (if cap=lo then a else a.map (·.add (lo*El.sz))) (cap - lo) ((xs.take hi).drop lo):=by
 have Z:=h.1;refine⟨by simp; omega,λ_ _ D=>?_⟩;rw[AoE,yN] at D;split at D
 . rename_i O;have⟨b,off,cs,J,_,U⟩:=h.2 _ _ D
   have:¬cap=lo:=by omega
   rw[if_neg this];refine⟨b,off+lo*El.sz,cs,?_,?_,U⟩
   . rw[J]; simp only[AhI,Addr.add]; split <;> simp_all
   all_goals grind
 . cases D
theorem uR {lo hi:Option Value} {L H k s:Nat} (hT:P.underlying T=some (.slice e)) (hs:∀ w,(sizeOf e).run P w=.ok s w) (h1:L<=H) (h2:H<=k) (hk:k<=cap)
  (D:lo=none∧L=0∨∃ q i,lo=some (.int q i)∧0<=i∧i.toNat=L) (J:hi=none∧H=k∨∃ q i,hi=some (.int q i)∧0<=i∧i.toNat=H) (w:World) :
  (Instr.sliceAt T (.slice a k cap) lo hi none).run P w=.ok (.slice (if cap=L then a else a.map (·.add (L*s))) (H - L) (cap - L)) w:=by
 have h:(Instr.sliceBounds true k cap lo hi none).run P w=.ok (L,H,cap) w:=by
  simp only[Instr.sliceBounds];rcases J with⟨rfl,rfl⟩ | ⟨q,i,rfl,Z,O⟩ <;> rcases D with⟨rfl,rfl⟩ | ⟨q',V,rfl,U,W⟩
  . simp
  . have:V<=(H:Int):=by omega
    simp[Instr.sliceBound,asIntOf,U,this,W]
  . have:i<=(cap:Int):=by omega
    simp[Instr.sliceBound,asIntOf,Z,this,O]
  . have g1:i<=(cap:Int):=by omega
    have g2:V<=(H:Int):=by omega
    simp[Instr.sliceBound,asIntOf,Z,g1,U,g2,O,W]
 simp only[Instr.sliceAt,Sem.run_bind,run_underlying hT,Result.andThen_ok,Instr.slice,h,hs,Sem.run_pure]
def RepCs (El:EE α) (I:IH) (src:List Value) (ys:List α):Prop:=
 src.length=ys.length*El.sz∧(∀ i y,ys[i]? = some y->∃ cs,El.rep I cs y∧∀ j v,cs[j]? = some v->src[i*El.sz+j]? = some v)∧OV src=true
theorem AeJ {a b:List Value} (h:OV a=true) (k:OV b=true):OV (a++b)=true:=by
 induction a with
 | nil=>exact k
 | cons v a D=>simp only[OV,cE,pH] at h ⊢; exact⟨h.1,D h.2⟩
theorem RepCs.nil:RepCs El I [] ([]:List α):=⟨by simp,λ_ _ h=>by simp at h,rfl⟩
theorem RepCs.cons {cs src:List Value} {v:α} {vs:List α} (h:El.rep I cs v) (k:RepCs El I src vs):RepCs El I (cs++src) (v :: vs):=by
 have O:=El.len h;refine⟨by simp[k.1,O,XT,Aa7],λi y J=>?_,AeJ (El.one h) k.2.2⟩
 cases i with
 | zero=>
  grind
 | succ i=>
  have⟨_,_,_⟩:=k.2.1 i y (by simpa using J);grind
theorem RepCs.one {cs:List Value} {v:α} (h:El.rep I cs v):RepCs El I cs [v]:=by have:=RepCs.cons h (RepCs.nil (El:=El) (I:=I)); grind
def Src (P:Program) (El:EE α) (I:IH) (S:World->Prop) (v:Value) (ys:List α):Prop:=
 (∃ b k c,v=.slice b k c∧k=ys.length)∧∃ src,RepCs El I src ys∧∀ w,S w->∀ w':World,w'.heap=w.heap->(Builtin.firstCells El.sz ys.length v).run P w'=.ok src.toArray w'
theorem Src.imm {k:Nat} (hR:RepSl El I a cap ys) (hk:k=ys.length):Src P El I (Sym w0 M I0 I m) (.slice a k cap) ys:=by
 subst hk;refine⟨⟨_,_,_,rfl,rfl⟩,?_⟩
 suffices H:∀ (O:List α) (o:Nat),(∀ i x,O[i]? = some x->∃ b off cs,a=some ⟨b,off,none⟩∧ImC I b (off+(o+i)*El.sz) cs∧El.rep I cs x) ->
    ∃ src,RepCs El I src O∧∀ w,Sym w0 M I0 I m w->∀ j v,src[j]? = some v->∃ b off,a=some ⟨b,off,none⟩∧w.cell? ⟨b,off+o*El.sz+j,none⟩=some v by
  have⟨src,J,h2⟩:=H ys 0 (λi x W=>by simpa using hR.2 i x W);refine⟨src,J,λw1 Z w a2=>?_⟩
  cases a with
  | none=>
    cases ys with
    | nil=>have:=J.1; simp at this; subst this; simp[Builtin.firstCells]
    | cons y ys=>have⟨_,_,_,g,_⟩:=hR.2 0 y (by simp); cases g
  | some p=>
    simp only[Builtin.firstCells];rw[<-J.1];refine run_loadCells_list w p src λj v U=>?_;have⟨b,off,V,D⟩:=h2 w1 Z j v U;have a4:w.cell? ⟨b,off+0*El.sz+j,none⟩=some v:=by simp only[World.cell?,a2]; exact D
    clear D; have D:=a4;cases V;rw[AeH,gM] at D;have e2:(⟨b,off,none⟩:Addr).add j=⟨b,off+j,none⟩:=by unfold Addr.add; split <;> simp_all
    rw[e2]; exact D
 intro O
 induction O with
 | nil=>exact λo _=>⟨[],.nil,λw _ j v h=>by simp at h⟩
 | cons z O ih=>
  intro o h
  have⟨src,J,h2⟩:=ih (o+1) (λi x W=>by
    have:=h (i+1) x (by simpa using W)
    rwa [show o+(i+1)=o+1+i by omega] at this)
  have⟨b,off,cs,V,D,g3⟩:=h 0 z (by simp);refine⟨cs++src,.cons g3 J,λw Z j v U=>?_⟩;have hl:=El.len g3;rcases Z1 j cs.length with h4 | h4
  . rw[lN h4] at U;exact⟨b,off,V,by simpa using D.cell Z U⟩
  all_goals grind
theorem Src.box {b:Nat} {src:List Value} {k:Nat} (O:Del m (Fw.pto b (.cells src.toArray T' (0,0))) m') (J:RepCs El I src ys) (hk:k=ys.length) :
  Src P El I (Sym w0 M I0 I m) (.slice (some ⟨b,0,none⟩) k cap) ys:=by
 subst hk;refine⟨⟨_,_,_,rfl,rfl⟩,src,J,λ_ V w D=>?_⟩;simp only[Builtin.firstCells];rw[<-J.1];refine run_loadCells_list w _ src λj _ U=>?_;have e:(⟨b,0,none⟩:Addr).add j=⟨b,j,none⟩:=by unfold Addr.add; split <;> simp_all
 have h:=(V.del O).pto;rw[<-D] at h;rw[e,NN h]; simpa using U
theorem AbX {z:Array Value} {s:Nat} (k:Nat) (h:z.size=s):(Builtin.zeroCells z k).size=k*s:=by simp[Builtin.zeroCells,h]
theorem NO {ty':TypeId} {k kv cv:Nat} {bv:Option Addr} {src:Array Value} {s:Nat} {w':World} (V:P.underlying sT=some (.slice e)) (O:P.underlying T'=some (.slice e')) (J:∀ w,(sizeOf e).run P w=.ok s w)
  (h:k+kv<=cap) (D:(Builtin.firstCells s kv (.slice bv kv cv)).run P w=.ok src w) (W:∀ p,a=some p->(storeCells (p.add (k*s)) src.toList).run P w=.ok () w') (Z:a=none->w'=w) :
  (Builtin.append_ #[sT,T'] ty' #[.slice a k cap,.slice bv kv cv]).run P w=.ok (.slice a (k+kv) cap) w':=by
 have U:∀ w,(Builtin.lenOf (.slice bv kv cv)).run P w=.ok kv w:=λw=>rfl
 cases a with
 | none=>simp[Builtin.append_,run_underlying V,run_underlying O,J,U,h,D,Z rfl]
 | some p=>simp[Builtin.append_,run_underlying V,run_underlying O,J,U,h,D,W p rfl]
theorem uS {ty':TypeId} {k kv cv:Nat} {bv:Option Addr} {src old:Array Value} {s B:Nat} {i:TypeInfo} (hT:P.underlying sT=some (.slice e)) (a2:P.underlying T'=some (.slice e')) (hi:P.info? e=some i)
  (hs:i.size=s) (hB:i.bytes=B) (hz:i.zero=some zc) (h:¬k+kv<=cap) (O:(k+kv)*B<=140737488355328) (a6:((k+kv:Nat):Int)<=9223372036854775807)
  (U:∀ w':World,w'.heap=w.heap->(Builtin.firstCells s k (.slice a k cap)).run P w'=.ok old w') (J:∀ w':World,w'.heap=w.heap->(Builtin.firstCells s kv (.slice bv kv cv)).run P w'=.ok src w') :
  ∃ c W,k+kv<=c∧w.drawn<=W∧(Builtin.append_ #[sT,T'] ty' #[.slice a k cap,.slice bv kv cv]).run P w =
   .ok (.slice (some ⟨w.heap.size,0,none⟩) (k+kv) c) (({ w with drawn:=W }:World).alloc (.cells (old++src++Builtin.zeroCells zc.cells (c - (k+kv))) e)):=by
 have a4:∀ w,(sizeOf e).run P w=.ok s w:=λw=>by simp[sizeOf,typeInfo,hi,hs]
 have D:∀ w,(typeInfo e).run P w=.ok i w:=λw=>by simp[typeInfo,hi]
 have Z:∀ w,(zeroValue e).run P w=.ok zc w:=λw=>by simp[zeroValue,D,hz]
 have a5:=growslice_fits (Nat.lt_of_not_le h) O;have hl:∀ w,(Builtin.lenOf (.slice bv kv cv)).run P w=.ok kv w:=λw=>rfl;have g1:¬(281474976710656<Builtin.nextslicecap (k+kv) cap*B):=by omega
 have g2:¬(9223372036854775807<(k:Int)+(kv:Int)):=by omega
 have hq:(Question.appendCap (k+kv) cap e).forced=false:=rfl;refine⟨(Question.appendCap (k+kv) cap e).cut (w.tape w.drawn (Question.appendCap (k+kv) cap e)),w.drawn+1,Nat.le_add_right _ _,AjZ _,?_⟩;have V:IntKind.i64.max=9223372036854775807:=rfl;have ho:=U w.drew rfl;have hr:=J w.drew rfl;simp only[Builtin.append_,Ae6,Ao9,AoK,Sem.run_bind,run_underlying hT,run_underlying a2,Result.andThen_ok,Sem.run_pure,a4,hl,h,if_false,AbS,D,hB,g1,g2,false_and,false_or,V,Int.natCast_add];simp[run_choose,hq,ho,hr,Z,newRow]
theorem Sym.appendNew {ty':TypeId} {r:List HA} {B:Nat} {i:TypeInfo} (a5:Sym w0 M I0 I r w)
   (hT:P.underlying sT=some (.slice e)) (a7:P.underlying T'=some (.slice e')) (hi:P.info? e=some i) (b1:i.size=El.sz) (hB:i.bytes=B) (hz:i.zero=some zc) (c0:zc.cells.size=El.sz)
   {bv:Option Addr} {cv:Nat} {src:List Value} (D:RepCs El I src ys) (O:∀ w':World,w'.heap=w.heap->(Builtin.firstCells El.sz ys.length (.slice bv ys.length cv)).run P w'=.ok src.toArray w')
   (a2:(xs.length+ys.length)*B<=140737488355328) (a6:B=0->xs.length+ys.length<=140737488355328) (U:¬xs.length+ys.length<=cap)
   (c1:∃ old:List Value,(∀ w':World,w'.heap=w.heap->(Builtin.firstCells El.sz xs.length (.slice a xs.length cap)).run P w'=.ok old.toArray w')∧old.length=xs.length*El.sz ∧
      ∀ i x,xs[i]? = some x->∃ cs,El.rep I cs x∧∀ j v,cs[j]? = some v->old[i*El.sz+j]? = some v) :
   ∃ V J w',(Builtin.append_ #[sT,T'] ty' #[.slice a xs.length cap,.slice bv ys.length cv]).run P w=.ok (.slice V (xs++ys).length J) w'∧Sym w0 M I0 I (OwnSl El e V J (xs++ys) :: r) w':=by
 rw[bL];have⟨old,a9,b0,_⟩:=c1
 have a4:((xs.length+ys.length:Nat):Int)<=9223372036854775807:=by
   by_cases hB0:B=0
   . have:=a6 hB0; omega
   . have:xs.length+ys.length<=(xs.length+ys.length)*B:=Nat.le_mul_of_pos_right _ (AoR hB0);omega
 have⟨c,dr,hc,a8,hr⟩:=uS (w:=w) (ty':=ty') (bv:=bv) (cv:=cv) hT a7 hi b1 hB hz U a2 a4 a9 O;refine⟨_,_,_,hr,?_⟩;refine((a5.drew dr a8).alloc _).weaken λ_ hq=>.inr ⟨_,_,rfl,hq,by simpa using hc,?_,?_⟩
 . have c2:=AbX (c - (xs.length+ys.length)) c0;simp only[Array.size_append,AoT,b0,D.1,c2];rw[<-XT,<-XT]; congr 1; omega
 . intro h x2 W;rcases Z1 h xs.length with Z | Z
   . grind
   . rw[yL Z] at W;have⟨cs,g3,g4⟩:=D.2.1 _ x2 W;refine⟨cs,g3,λj u hj=>?_⟩;have h7:=g4 j u hj;have h8:=(List.getElem?_eq_some_iff.1 h7).1;have e3:h*El.sz=xs.length*El.sz+(h - xs.length)*El.sz:=by rw[<-XT]; congr 1; omega
     grind
theorem Sym.append {ty':TypeId} {v:Value} {r:List HA} {B:Nat} {i:TypeInfo} (h:Sym w0 M I0 I (OwnSl El e a cap xs :: r) w)
   (hT:P.underlying sT=some (.slice e)) (a7:P.underlying T'=some (.slice e')) (hi:P.info? e=some i) (c0:i.size=El.sz) (hB:i.bytes=B) (hz:i.zero=some zc) (d8:zc.cells.size=El.sz)
   (hv:∃ b k c,v=.slice b k c∧k=ys.length) {src:List Value} (D:RepCs El I src ys) (a5:∀ w':World,w'.heap=w.heap->(Builtin.firstCells El.sz ys.length v).run P w'=.ok src.toArray w')
   (e5:(xs.length+ys.length)*B<=140737488355328) (d1:B=0->xs.length+ys.length<=140737488355328) {k:Nat} (hk:k=xs.length) :
   ∃ a' a2 w',(Builtin.append_ #[sT,T'] ty' #[.slice a k cap,v]).run P w=.ok (.slice a' (xs++ys).length a2) w'∧Sym w0 M I0 I (OwnSl El e a' a2 (xs++ys) :: r) w'∧(xs.length+ys.length<=cap->a'=a∧a2=cap):=by
 subst hk;obtain⟨_,_,_,rfl,rfl⟩:=hv;have b1:∀ w,(sizeOf e).run P w=.ok El.sz w:=λw=>by simp[sizeOf,typeInfo,hi,c0]
 have⟨_,a9,e4⟩:=h.get;rw[bL];by_cases hfit:xs.length+ys.length<=cap
 . -- there is room
   rcases a9 with⟨W,O,V⟩ | ⟨b,c,W,O,V,h4,h5⟩
   . subst W O V;have hy:ys=[]:=AvY (by simpa using hfit);subst hy;exact⟨none,0,w,NO hT a7 b1 hfit (a5 w rfl) (λp hp=>by cases hp) (λ_=>rfl),h,λ_=>⟨rfl,rfl⟩⟩
   . subst W;have⟨hb,e2,hn,kk,⟨g1,g2,hd',hl1,hl2,ha,hs'⟩,hkk,hdj,hm⟩:=h;rcases ha with⟨a6,_⟩ | ⟨b',c',a6,c1,e7,c2,d0⟩
     . cases a6
     cases a6;have a8:Sym w0 M I0 I (Fw.pto b (.cells c' e (0,0)) :: r) w:=⟨hb,e2,hn,kk,⟨g1,g2,hd',hl1,hl2,c1,hs'⟩,hkk,hdj,hm⟩;have e8:xs.length*El.sz+ys.length*El.sz<=cap*El.sz:=by rw[<-XT]; exact uM _ hfit
     have hr:=run_storeCells_at (P:=P) b (xs.length*El.sz) e src 0 c' w a8.pto (by rw[c2,D.1]; omega) (XU D.2.2);have e1:(⟨b,0,none⟩:Addr).add (xs.length*El.sz)=⟨b,xs.length*El.sz,none⟩:=by unfold Addr.add; split <;> simp_all
     refine⟨some ⟨b,0,none⟩,cap,_,NO hT a7 b1 hfit (a5 w rfl) (λp hp=>by cases hp; rw[e1]; exact hr) (λh=>by cases h),?_,λ_=>⟨rfl,rfl⟩⟩;have d6:=a8.upd (o':=.cells (c'.toList.take (xs.length*El.sz+0)++src++c'.toList.drop (xs.length*El.sz+0+src.length)).toArray e (0,0)) (w':=w.setRow b _) rfl rfl rfl rfl (by simp[World.setRow]) (λq hq=>Fw.setRow_other hq) (setRow_heap w b _ _ e _ a8.pto);refine d6.weaken λq hq=>.inr ⟨b,_,rfl,hq,by simpa using hfit,?_,?_⟩
     . simp[D.1]; omega
     . intro Z x2 a4;simp only[gM,Ae6];rcases Z1 Z xs.length with h6 | h6
       . rw[lN h6] at a4;have⟨cs,J,g4⟩:=d0 Z x2 a4;refine⟨cs,J,λj u U=>?_⟩;have d4:j<El.sz:=by rw[<-El.len J]; grind
         have b0:(Z+1)*El.sz<=xs.length*El.sz:=uM _ h6;grind
       . rw[yL h6] at a4;have⟨cs,J,g4⟩:=D.2.1 _ x2 a4;refine⟨cs,J,λj u U=>?_⟩;have h7:=g4 j u U;have h8:=(List.getElem?_eq_some_iff.1 h7).1;have e3:Z*El.sz=xs.length*El.sz+(Z - xs.length)*El.sz:=by rw[<-XT]; congr 1; omega
         rw[lL,yL (by simp; omega),lN (by simp; omega),<-h7];grind
 . -- a new array
   have e6:∃ old:List Value,(∀ w':World,w'.heap=w.heap->(Builtin.firstCells El.sz xs.length (.slice a xs.length cap)).run P w'=.ok old.toArray w')∧old.length=xs.length*El.sz ∧
       ∀ i x,xs[i]? = some x->∃ cs,El.rep I cs x∧∀ j v,cs[j]? = some v->old[i*El.sz+j]? = some v:=by
     rcases a9 with⟨W,O,V⟩ | ⟨b,c,W,O,V,h4,h5⟩
     . subst W O V; exact⟨[],λw' _=>by simp[Builtin.firstCells],by simp,λi x h=>by simp at h⟩
     . subst W;have d9:xs.length*El.sz<=c.size:=by rw[h4]; exact uM _ V
       refine⟨c.toList.take (xs.length*El.sz),λw' d7=>?_,by simp; omega,λi x hx=>?_⟩
       . simp only[Builtin.firstCells];have d5:(c.toList.take (xs.length*El.sz)).length=xs.length*El.sz:=by rw[VK]; exact Nat.min_eq_left (by simpa using d9)
         have:=run_loadCells_list (P:=P) w' ⟨b,0,none⟩ (c.toList.take (xs.length*El.sz)) (λj v U=>by
          have e1:(⟨b,0,none⟩:Addr).add j=⟨b,j,none⟩:=by unfold Addr.add; split <;> simp_all
          have d2:w'.heap[b]? = some (.cells c e (0,0)):=by rw[d7]; exact e4 _ _ O
          rw[e1,NN d2];rw[yN] at U;split at U
          . simpa using U
          . cases U)
         rwa [d5] at this
       . have⟨cs,J,g4⟩:=h5 i x hx;refine⟨cs,J,λj u U=>?_⟩;have d4:j<El.sz:=by rw[<-El.len J]; exact(List.getElem?_eq_some_iff.1 U).1
         have d3:=(List.getElem?_eq_some_iff.1 hx).1;have b0:(i+1)*El.sz<=xs.length*El.sz:=uM _ d3;rw[XT,AbV] at b0;rw[yN,if_pos (by omega)];simpa using g4 j u U
   have⟨a',a2,w',g1,g2⟩:=h.drop.appendNew (P:=P) (ty':=ty') hT a7 hi c0 hB hz d8 D a5 e5 d1 hfit e6;grind
theorem Ops.append {i:TypeInfo} {v:Value} {J:Array TypeId} {k:Nat} (B:Nat) (hA:Del m (OwnSl El e a cap xs) m') (hT:P.underlying sT=some (.slice e)) (a5:P.underlying T'=some (.slice e')) (hi:P.info? e=some i)
  (a2:i.size=El.sz) (hB:i.bytes=B) (hz:i.zero=some zc) (a7:zc.cells.size=El.sz) (a4:Nat.blt 0 B=true) (U:J = #[sT,T']) (hx:ev E x=some (.slice a k cap)) (hk:k=xs.length) (hy:ev E y=some v) (hS:Src P El I (Sym w0 M I0 I m) v ys)
  (O:(xs.length+ys.length)*B<=140737488355328) (hb:Nat.blt d n.sz=true) (hf:fresh E d=true)
  (k':∀ D h,Ops P ops l n ((d,.slice D (xs++ys).length h) :: E) (Sym w0 M I0 I (OwnSl El e D h (xs++ys) :: m')) Q) :
  Ops P ops (⟨some d,.call ⟨.builtin .append,#[x,y],J⟩,ty,pos,af,none⟩ :: l) n E (Sym w0 M I0 I m) Q:=
 Ops.valx (λv w'=>∃ D h,v=.slice D (xs++ys).length h∧Sym w0 M I0 I (OwnSl El e D h (xs++ys) :: m') w') rfl rfl
  (λc w W V=>by
   have⟨Z,_,h1,h2⟩:=hS;have⟨D,h,w',hr,a6,_⟩:=(V.del hA).append (P:=P) (ty':=ty) hT a5 hi a2 hB hz a7 Z h1 (h2 w V) O (λh0=>by subst h0; cases a4) hk;subst U;refine⟨_,w',?_,D,h,rfl,a6⟩;have e:(#[x,y].map c.eval) = #[.slice a k cap,v]:=by simp[W.eval hx,W.eval hy]
   simp only[execOp,resolve,e,Sem.run_bind,Sem.run_pure,Result.andThen_ok,invoke,builtin,hr]) hb hf
  (λv c w W ⟨D,h,Z,V⟩=>by subst Z; exact k' D h c w W V)
end
section
variable {w0:World} {M:Nat→Prop} {I0:IH}
variable {P:Program} {n:FrK} {E:DH} {Q:Exit→Act→World→Prop} {ops:Array Oper}
variable {listed:Array Bool} {l0 ex:List HA}
abbrev I7:=List (Nat×Nat×Value)
def LQ:List Nat->Nat->Bool
 | [],_=>false
 | x :: l,y=>bif Nat.beq x y then true else LQ l y
theorem ER {l:List Nat} {y:Nat}:LQ l y=true↔y∈l:=by
 induction l with
 | nil=>simp[LQ]
 | cons x l D=>
  simp only[LQ,T7]
  cases h:Nat.beq x y with
  | true=>simp[AhD h]
  | false=>
   have:y≠x:=λe=>by rw[e,Nat.beq_refl] at h; cases h
   simp[D,this]
def AaA:List Edge->List Nat
 | []=>[]
 | e :: l=>bif Region.binds .any e then e.on :: AaA l else AaA l
def F4 (o:Oper):List Nat:=AaA o.after.toList
theorem eZ {l:List Edge} {j:Nat}:j∈AaA l↔∃ e∈l,Region.binds .any e=true∧e.on=j:=by
  induction l with
  | nil=>simp[AaA]
  | cons e l V=>
    simp only[AaA]
    cases h:Region.binds .any e with
    | true =>
      simp only[cond_true, T7, V]; constructor
      . rintro(rfl | ⟨O,U,D,J⟩)
        . exact⟨e,.inl rfl,h,rfl⟩
        . exact⟨O,.inr U,D,J⟩
      . rintro⟨O,rfl | U,D,J⟩
        . exact .inl J.symm
        . exact .inr ⟨O,U,D,J⟩
    | false =>
      simp only[cond_false, T7, V]; constructor
      . rintro⟨O,U,D,J⟩; exact⟨O,.inr U,D,J⟩
      . rintro⟨O,rfl | U,D,J⟩
        . rw[h] at D; cases D
        . exact⟨O,U,D,J⟩
def JP:I7->List Nat->DH->DH
 | [],_,E=>E
 | p :: r,js,E=>bif LQ js p.1 then p.2 :: JP r js E else JP r js E
def Ap2:I7->DH->DH
 | [],E=>E
 | p :: r,E=>p.2 :: Ap2 r E
def ID:I7->Nat->Option (Nat×Value)
 | [],_=>none
 | p :: r,i=>bif Nat.beq p.1 i then some p.2 else ID r i
def Fin (n:FrK) (S:World->Prop) (d:Nat) (v:Value):Exit->Act->World->Prop:=λe a w=>e=.normal∧a.defers=n.defs∧a.tmps[d]? = some v∧S w
abbrev Sh:=List HA->List HA
def ShOk (L:Sh):Prop:=∀ X ex,(L (X :: ex)).Perm (X :: L ex)
theorem Del.perm {l m:List HA} {A:HA} (h:Del l A m):l.Perm (A :: m):=by
 induction h with
 | z=>exact .refl _
 | s _ D=>exact(D.cons _).trans (.swap ..)
theorem Am0 {l O:List HA} {I:IH} (hp:l.Perm O):∀ {h:IH},OQ l I h->OQ O I h:=by
 induction hp with
 | nil=>exact λh=>h
 | cons x _ Z=>exact λ⟨U,V,a,b,c,d,e⟩=>⟨U,V,a,b,c,d,Z e⟩
 | swap x y l=>exact λW=>lQ (.s .z) W
 | trans _ _ J D=>exact λh=>D (J h)
theorem Sym.perm {I:IH} {l D:List HA} {w:World} (hp:l.Perm D) (h:Sym w0 M I0 I l w):Sym w0 M I0 I D w:=by have⟨U,hi,W,k,V,hk,J,O⟩:=h;exact⟨U,hi,W,k,Am0 hp V,hk,J,O⟩
theorem ShOk.front {L:Sh} (h:ShOk L):∀ ex,(L ex).Perm (ex++L [])
 | []=>.refl _
 | X :: ex=>(h X ex).trans ((h.front ex).cons X)
theorem ShOk.app {L:Sh} (h:ShOk L) (D:List HA):ShOk λex=>L (D++ex):=λX ex=>by refine(h.front _).trans (.trans ?_ ((h.front (D++ex)).symm.cons X));simp only[lL,pH];exact AlX
structure AS where
 i:Nat
 d:Nat
 env:DH
 val:Nat→Value
 atom:Nat→HA
def AvB (P:Program) (ops:Array Oper) (n:FrK) (w0:World) (M:Nat->Prop) (I0:IH) (s:AS):Prop:=
 ∃ o,ops[s.i]? = some o∧o.dst=some s.d∧∀ (I:IH) (L:Sh),ShOk L->∀ ex,Ops P ops [o] n s.env (Sym w0 M I0 I (L ex)) λe a w=>e=.normal∧a.defers=n.defs∧∃ b,a.tmps[s.d]? = some (s.val b)∧Sym w0 M I0 I (L (s.atom b :: ex)) w
def OR:List AS->List Nat
 | []=>[]
 | s :: r=>s.i :: OR r
def barD:List AS->I7->Sh->(I7->Sh->Prop)->Prop
 | [],dn,L,K=>K dn L
 | s :: r,dn,L,K=>∀ b,barD r ((s.i,s.d,s.val b) :: dn) (λex=>L (s.atom b :: ex)) K
def avals (bs:Nat->Nat):List AS->I7->I7
 | [],dn=>dn
 | s :: r,dn=>avals bs r ((s.i,s.d,s.val (bs s.i)) :: dn)
def atoms (bs:Nat->Nat):List AS->List HA
 | []=>[]
 | s :: r=>s.atom (bs s.i) :: atoms bs r
theorem barD.get (bs:Nat->Nat):∀ {as:List AS} {dn:I7} {L:Sh} {K:I7->Sh->Prop},barD as dn L K->K (avals bs as dn) (λex=>L (atoms bs as++ex))
 | [],_,_,_,h=>h
 | s :: r,_,_,_,h=>barD.get bs (as:=r) (h (bs s.i))
def AeK (as X:List Nat):List Oper->Nat->Bool
 | [],_=>true
 | o :: r,i=>(LQ X i || LQ as i || !(F4 o).all (λp=>LQ X p || LQ as p) || as.all (LQ (F4 o))) && AeK as X r (i+1)
def PendL (P:Program) (ops:Array Oper) (n:FrK) (E:DH) (dn:I7) (S:List HA->World->Prop):List Nat->Prop
 | []=>True
 | f :: fs=>(∃ o d v,ops[f]? = some o∧o.dst=some d∧fresh E d=true∧ID dn f=some (d,v)∧∀ ex,Ops P ops [o] n (JP dn (F4 o) E) (S ex) (Fin n (S ex) d v))∧PendL P ops n E dn S fs
def anc (ops:Array Oper):Nat->Nat->Nat->Bool
 | 0,_,_=>false
 | k+1,f,c=>match ops[c]? with
  | none=>false
  | some o=>LQ (F4 o) f || (F4 o).any (anc ops k f)
def AhP (ops:Array Oper) (c:Nat) (h pend:List Nat):Prop:=∀ f∈pend,f∈h∨∃ k,anc ops k f c=true
def lT (ops:Array Oper) (c f:Nat):Bool:=match ops[c]? with
 | none=>false
 | some o=>LQ (F4 o) f
def AbY (X:List Nat):List Nat->Bool
 | []=>true
 | p :: ps=>LQ X p && AbY X ps
def fA (ops:List Oper) (X:List Nat) (c:Nat):Nat->Bool
 | i=>match ops with
  | []=>true
  | o :: r=>(LQ X i || Nat.beq i c || !AbY X (F4 o)) && fA r X c (i+1)
def RX (X:List Nat):Nat->Bool
 | 0=>true
 | k+1=>LQ X k && RX X k
def iF (o:Oper) (c:Nat) (dn:I7) (a:Act) (h:I7):Prop:=
 match o.dst with
 | some d=>∃ v,a.tmps[d]? = some v∧h=(c,d,v) :: dn
 | none=>h=dn
def lU (X:List Nat):Nat->Bool
 | 0=>true
 | k+1=>LQ X k && lU X k
def X5:List Oper->Nat->Bool
 | [],_=>true
 | o :: r,i=>lU (F4 o) i && X5 r (i+1)
def rmE (d:Nat):DH->DH
 | []=>[]
 | p :: r=>bif Nat.beq p.1 d then rmE d r else p :: rmE d r
def XV (o:Oper) (E:DH):DH:=match o.dst with
 | none=>E
 | some d=>bif fresh E d then E else rmE d E
def DrawD (P:Program) (ops:Array Oper) (n:FrK) (Q:Exit->Act->World->Prop) (w0:World) (M:Nat->Prop) (I0:IH):DH->List (Option Nat)->I7->List Nat->List Nat->List AS->IH->Sh->Prop
 | E,[],dn,X,_,as,I,L=>as=[]∧∃ t,RX X t=true∧(∀ x∈X,x<t)∧X5 (ops.toList.drop t) t=true∧Ops P ops (ops.toList.drop t) n (Ap2 dn E) (Sym w0 M I0 I (L [])) Q
 | E,none :: cs,dn,X,pend,as,I,L=>AeK (OR as) X ops.toList 0=true∧barD as dn L λD J=>DrawD P ops n Q w0 M I0 E cs D (OR as++X) pend [] I J
 | E,some c :: cs,dn,X,pend,as,I,L=>∃ o,ops[c]? = some o ∧
  ((∃ d v,o.dst=some d∧fresh E d=true∧(∀ ex,Ops P ops [o] n (JP dn (F4 o) E) (Sym w0 M I0 I (L ex)) (Fin n (Sym w0 M I0 I (L ex)) d v))∧DrawD P ops n Q w0 M I0 E cs ((c,d,v) :: dn) (c :: X) (c :: pend) as I L)
  ∨ (∃ d val atom,o.dst=some d∧fresh E d=true∧AbY X (F4 o)=true∧AvB P ops n w0 M I0 ⟨c,d,JP dn (F4 o) E,val,atom⟩∧DrawD P ops n Q w0 M I0 E cs dn X pend (⟨c,d,JP dn (F4 o) E,val,atom⟩ :: as) I L)
  ∨ (fA ops.toList (OR as++X) c 0=true∧(as=[]∨XV o E=E)∧∃ h,AhP ops c h pend∧∀ ex,Ops P ops [o] n (JP dn (F4 o) E) (Sym w0 M I0 I (L ex)) λe a w=>e=.normal∧a.defers=n.defs ∧
   ∃ O J D,iF o c dn a D∧ShOk J∧Sym w0 M I0 O (J ex) w∧PendL P ops n (XV o E) D (λex=>Sym w0 M I0 O (J ex)) h∧DrawD P ops n Q w0 M I0 (XV o E) cs D (c :: X) h as O J))
def jJ (n:FrK):List Oper->List Nat->Bool
 | [],_=>true
 | o :: r,ds=>match o.dst with
  | none=>jJ n r ds
  | some d=>Nat.blt d n.sz && !LQ ds d && jJ n r (d :: ds)
def jK:List Oper->Nat->Bool
 | [],_=>true
 | o :: r,i=>(F4 o).all (Nat.blt · i) && jK r (i+1)
theorem AvZ {o:Oper} {a:Act} {w:World} (ha:a.defers=n.defs) {K':Act->World->Prop} {U:Exit->Act->World->Prop} (Z:∀ e a w,U e a w->e=.normal) (hK:∀ a w,K' a w->a.defers=n.defs)
  (h:o.wpIn (X4 n) 0 P a w K' U):o.wpIn (X4 n) 0 P a w (λW w'=>K' W w'∧∃ v,W=a.put o.dst v) Q:=by
 have hp:∀ c a w,¬U (.panic c) a w:=λc a w V=>by cases Z _ _ _ V
 have J:¬LetsOut U:=λ⟨a,w,V⟩=>by cases Z _ _ _ V
 unfold Oper.wpIn at *;refine⟨h.1,?_⟩
 replace h:=h.2
 generalize (o.semAt (X4 n).round a.eval).run P w=r at *
 cases r with
 | ok x w'=>
  cases x <;> simp only[Oper.uponIn] at h ⊢
  case value v=>exact⟨h,v,rfl⟩
  case skip=>exact⟨h,_,rfl⟩
  case defer d=>exact absurd (hK _ _ h) (by rw[<-ha]; unfold Act.put; split <;> simp)
  case round=>refine⟨h.1,RoundIn.mono h.2 λe O D=>?_⟩; cases e with
   | returned v=>exact⟨D,v,rfl⟩
   | panicked c=>exact(hp _ _ _ D).elim
   | outgrown=>exact(J D).elim
  case enter f args=>
   refine⟨h.1,CallsIn.mono h.2 λe O D=>?_⟩
   cases e with
   | returned v=>exact⟨D,v,rfl⟩
   | panicked c=>exact(hp _ _ _ D).elim
   | outgrown=>exact(J D).elim
  case row=>exact⟨h.1,RowsIn.mono h.2 λv O D=>⟨D,v,rfl⟩⟩
 | halt x w'=>
  cases x <;> simp only[Oper.uponIn] at h ⊢;exact(hp _ _ _ h).elim
theorem uT {o:Oper} {i:Nat} {a:Act} {w:World} (Z:a.defers=n.defs) {J:Exit->Act->World->Prop} {K:Act->World->Prop} (hi:ops[i]? = some o) (V:∀ e a w,J e a w->e=.normal∧a.defers=n.defs)
   (h:wpListIn (X4 n) 0 P ops J [o] a w) (U:∀ D w',J .normal D w'->(∃ v,D=a.put o.dst v)->K D w'):wpOpIn (X4 n) 0 P ops Q i K a w:=by
 simp only[wpOpIn,hi];unfold wpListIn at h;split
 . rename_i O;rw[if_pos O] at h;refine Oper.wpIn_mono (λD w' W=>U D w' W.1 W.2) (AvZ Z (K':=λa w=>J .normal a w) (Q:=Q) (λe a w h=>(V e a w h).1) (λa w h=>(V _ _ _ h).2) ?_);exact h
 . rename_i O;rw[if_neg O] at h;exact⟨h.1,U _ _ h.2 ⟨undef,rfl⟩⟩
structure RI (P:Program) (ops:Array Oper) (n:FrK) (E:DH) (Q:Exit→Act→World→Prop) (w0:World) (M:Nat→Prop) (I0:IH) (listed:Array Bool) (a:Act) (w:World) (cs:List (Option Nat)) (dn:I7) (X pend:List Nat) (as:List AS) (I:IH) (L:Sh) (ad:List (AS×Nat)):Prop where
 draw:DrawD P ops n Q w0 M I0 E cs dn X pend as I L
 shape:ShOk L
 sat:Sym w0 M I0 I (L (ad.map fun p=>p.1.atom p.2)) w
 size:a.tmps.size=n.sz
 defers:a.defers=n.defs
 env:EnvOk E a
 lsize:listed.size=ops.size
 val:∀ i d v,(i,d,v)∈dn→listed.getD i false=true→a.tmps[d]? = some v
 have_:∀ i o d,ops[i]? = some o→o.dst=some d→i∈X→∃ v,(i,d,v)∈dn
 dnOk:∀ i d v,(i,d,v)∈dn→i∈X∧ID dn i=some (d,v)∧∃ o,ops[i]? = some o∧o.dst=some d
 inX:∀ i,listed.getD i false=true→i∈OR as++X
 outX:∀ i,i∈X→listed.getD i false=false→i∈pend
 pendL:PendL P ops n E dn (fun ex=>Sym w0 M I0 I (L ex)) pend
 down:∀ i o,listed.getD i false=true→ops[i]? = some o→∀ p∈F4 o,listed.getD p false=true
 asX:∀ c∈OR as,c ∉ X
 asNd:(OR as).Nodup
 asSp:∀ s∈as,AvB P ops n w0 M I0 s∧∀ o,ops[s.i]? = some o→(∀ p∈F4 o,p∈X)∧JP dn (F4 o) E=s.env∧fresh E s.d=true
 adOk:∀ p∈ad,p.1∈as∧listed.getD p.1.i false=true∧a.tmps[p.1.d]? = some (p.1.val p.2)
 adAll:∀ s∈as,listed.getD s.i false=true→∃ b,(s,b)∈ad
 adNd:(ad.map fun p=>p.1.i).Nodup
theorem PendL.get {dn:I7} {S:List HA->World->Prop}:∀ {l:List Nat},PendL P ops n E dn S l->∀ f∈l,∃ o d v,ops[f]? = some o∧o.dst=some d∧fresh E d=true∧ID dn f=some (d,v)∧∀ ex,Ops P ops [o] n (JP dn (F4 o) E) (S ex) (Fin n (S ex) d v)
 | f :: fs,⟨h,h'⟩,g,D=>by
  cases D with
  | head=>exact h
  | tail _ D=>exact PendL.get h' g D
theorem Ak0 {a:Act} {js:List Nat} (J:EnvOk E a):∀ {dn:I7},(∀ i d v,(i,d,v)∈dn->i∈js->a.tmps[d]? = some v)->EnvOk (JP dn js E) a
 | [],_=>J
 | (i,d,v) :: dn,h=>by
  have ih:=Ak0 (js:=js) J (dn:=dn) (λi d v D=>h i d v (cD _ D));simp only[JP]
  cases D:LQ js i with
  | true=>exact⟨h i d v (by simp) (ER.1 D),ih⟩
  | false=>exact ih
theorem Ak1 {a:Act} (D:EnvOk E a):∀ {dn:I7},(∀ i d v,(i,d,v)∈dn->a.tmps[d]? = some v)->EnvOk (Ap2 dn E) a
 | [],_=>D
 | (i,d,v) :: dn,h=>⟨h i d v (by simp),Ak1 D λi d v J=>h i d v (cD _ J)⟩
theorem uU {l:List Nat} {y:Nat} (h:LQ l y=false):y ∉ l:=λD=>by rw[ER.2 D] at h; cases h
theorem Z2 {X:List Nat}:∀ {k i:Nat},RX X k=true->i<k->i∈X
 | k+1,i,h,hi=>by
  simp only[RX,cE] at h;by_cases e:i=k
  . subst e; exact ER.1 h.1
  . exact Z2 h.2 (by omega)
theorem Ak2 {X:List Nat}:∀ {D:List Nat},(∀ p∈D,p∈X)->AbY X D=true
 | [],_=>rfl
 | p :: D,h=>by simp only[AbY,cE]; exact⟨ER.2 (h p (by simp)),Ak2 λq J=>h q (cD _ J)⟩
theorem AbZ {X:List Nat} {c:Nat} {l:List Oper}:∀ (k:Nat),fA l X c k=true->∀ (i:Nat) (o:Oper),l[i]? = some o->k+i∈X∨k+i=c∨¬(∀ p∈F4 o,p∈X):=by
 induction l with
 | nil=>intro k _ i o hi; simp at hi
 | cons o' l J=>
  intro k h i o hi;simp only[fA,cE,AlY] at h
  cases i with
  | zero=>
   simp at hi; subst hi;rcases h.1 with(D | D) | D
   . exact .inl (ER.1 D)
   . exact .inr (.inl (AhD D))
   . refine .inr (.inr λO=>?_);rw[Ak2 O] at D; cases D
  | succ i=>
   have:=J (k+1) h.2 i o (by simpa using hi)
   rwa [show k+1+i=k+(i+1) by omega] at this
theorem AhQ (O:∀ (i:Nat) (o:Oper),listed.getD i false=true->ops[i]? = some o->∀ p∈F4 o,listed.getD p false=true) (k:Nat) :
  ∀ (f c:Nat) (o:Oper),ops[c]? = some o->(∀ p∈F4 o,listed.getD p false=true)->anc ops k f c=true->listed.getD f false=true:=by
 induction k with
 | zero=>intro f c o _ _ h; simp[anc] at h
 | succ k U=>
  intro f c o J hp h;simp only[anc,J,AlY,AoG] at h;rcases h with h | ⟨p,D,h⟩
  . exact hp f (ER.1 h)
  . cases V:ops[p]? with
    | none=>cases k <;> simp[anc,V] at h
    | some o'=>exact U f p o' V (O p o' (hp p D) V) h
theorem AeL {f c:Nat} (h:lT ops c f=true):anc ops 1 f c=true:=by
 unfold lT at h;unfold anc
 cases D:ops[c]? with
 | none=>rw[D] at h; cases h
 | some o=>rw[D] at h; simp[h]
theorem Ap3 {f p c:Nat} (h:lT ops p f=true):∀ {k:Nat},anc ops k p c=true->∃ J,anc ops J f c=true:=by
 intro k
 induction k generalizing c with
 | zero=>intro D; simp[anc] at D
 | succ k O=>
  intro D;unfold anc at D
  cases V:ops[c]? with
  | none=>rw[V] at D; cases D
  | some o=>
   rw[V] at D;simp only[AlY,AoG] at D;rcases D with D | ⟨q,U,D⟩
   . refine⟨2,?_⟩;unfold anc;rw[V];simp only[AlY,AoG];exact .inr ⟨p,ER.1 D,AeL h⟩
   . have⟨J,hk⟩:=O D;refine⟨J+1,?_⟩;unfold anc;rw[V];simp only[AlY,AoG];exact .inr ⟨q,U,hk⟩
theorem AeM {l:List Oper}:∀ (U:List Nat),jJ n l U=true->∀ (i:Nat) (o:Oper) (d:Nat),l[i]? = some o->o.dst=some d ->
  Nat.blt d n.sz=true∧d ∉ U∧∀ (j:Nat) (o':Oper),l[j]? = some o'->o'.dst=some d->j=i:=by
 induction l with
 | nil=>intro U _ i o d hi; simp at hi
 | cons o' l ih=>
  intro U h i o d hi V;simp only[jJ] at h
  cases Z:o'.dst with
  | none=>
   rw[Z] at h
   cases i with
   | zero=>simp at hi; subst hi; rw[Z] at V; cases V
   | succ i=>
    have⟨a2,W,h4⟩:=ih U h i o d (by simpa using hi) V;refine⟨a2,W,λj J O D=>?_⟩
    cases j with
    | zero=>simp at O; subst O; rw[Z] at D; cases D
    | succ j=>rw[h4 j J (by simpa using O) D]
  | some d'=>
   simp only[Z,cE,Bool.not_eq_true'] at h;have⟨⟨g1,g3⟩,g4⟩:=h
   cases i with
   | zero=>
    simp at hi; subst hi; rw[Z] at V; cases V;refine⟨g1,uU g3,λj J O D=>?_⟩
    cases j with
    | zero=>rfl
    | succ j=>
     have:=(ih (d :: U) g4 j J d (by simpa using O) D).2.1;exact absurd (by simp) this
   | succ i=>
    have⟨a2,W,h4⟩:=ih (d' :: U) g4 i o d (by simpa using hi) V;refine⟨a2,λhm=>W (cD _ hm),λj J O D=>?_⟩
    cases j with
    | zero=>simp at O; subst O; rw[Z] at D; cases D; exact absurd (by simp) W
    | succ j=>rw[h4 j J (by simpa using O) D]
theorem rJ {l:List Oper}:∀ (k:Nat),jK l k=true->∀ (i:Nat) (o:Oper),l[i]? = some o->∀ p∈F4 o,p<k+i:=by
 induction l with
 | nil=>intro k _ i o hi; simp at hi
 | cons o' l D=>
  intro k h i o hi p hp;simp only[jK,cE,List.all_eq_true] at h
  cases i with
  | zero=>simp at hi; subst hi; have:=h.1 p hp; simpa[Nat.blt_eq] using this
  | succ i=>have:=D (k+1) h.2 i o (by simpa using hi) p hp; omega
theorem AeN {ops:Array Oper} {i:Nat}:ops.toList[i]? = ops[i]?:=by simp
theorem HS {i j:Nat} (hi:i<listed.size):(listed.setIfInBounds i true).getD j false=true↔j=i∨listed.getD j false=true:=by
 simp only[lM,Ao5];by_cases e:i=j
 . subst e; simp[hi]
 . simp[e,Ne.symm e]
theorem AhR {as X:List Nat} {l:List Oper}:∀ (k:Nat),AeK as X l k=true->∀ (i:Nat) (o:Oper),l[i]? = some o->k+i∈as++X∨¬(∀ p∈F4 o,p∈as++X)∨∀ c∈as,c∈F4 o:=by
 induction l with
 | nil=>intro k _ i o hi; simp at hi
 | cons o' l V=>
  intro k h i o hi;simp only[AeK,cE,AlY] at h
  cases i with
  | zero=>
   simp at hi; subst hi;rcases h.1 with((D | D) | D) | D
   . exact .inl (List.mem_append.2 (.inr (ER.1 D)))
   . exact .inl (List.mem_append.2 (.inl (ER.1 D)))
   . refine .inr (.inl λU=>?_)
     have:(F4 o').all (λp=>LQ X p || LQ as p)=true:=List.all_eq_true.2 λp hp=>by
      rcases List.mem_append.1 (U p hp) with J | J
      . simp[ER.2 J]
      . simp[ER.2 J]
     rw[this] at D; cases D
   . exact .inr (.inr λc O=>ER.1 (List.all_eq_true.1 D c O))
  | succ i=>
   have:=V (k+1) h.2 i o (by simpa using hi)
   rwa [show k+1+i=k+(i+1) by omega] at this
def TU:List (Option Nat)->List Nat
 | []=>[]
 | none :: r=>TU r
 | some c :: r=>c :: TU r
theorem VW {c:Nat}:∀ {as:List AS},c∈OR as↔∃ s∈as,s.i=c
 | []=>by simp[OR]
 | s :: r=>by
  simp only[OR,T7,VW (as:=r)];constructor
  . rintro(rfl | ⟨J,D,h⟩)
    . exact⟨s,.inl rfl,rfl⟩
    . exact⟨J,.inr D,h⟩
  . rintro⟨J,rfl | D,h⟩
    . exact .inl h.symm
    . exact .inr ⟨J,D,h⟩
theorem RL {α β:Type} {f:α->β}:∀ {l:List α},(l.map f).Nodup->∀ {x y:α},x∈l->y∈l->f x=f y->x=y
 | a :: l,h,x,y,hx,hy,e=>by
  simp only[OU,uQ,gL,not_exists,not_and] at h;rcases List.mem_cons.1 hx with h1 | h1 <;> rcases List.mem_cons.1 hy with h2 | h2
  . rw[h1,h2]
  . rw[h1] at e; exact absurd e.symm (h.1 y h2)
  . rw[h2] at e; exact absurd e (h.1 x h1)
  . exact RL h.2 h1 h2 e
theorem Z3 {α β:Type} {f:α->β}:∀ {l:List α},(l.map f).Nodup->l.Nodup
 | [],_=>.nil
 | a :: l,h=>by simp only[OU,uQ,gL,not_exists,not_and] at h;exact List.nodup_cons.2 ⟨λD=>h.1 a D rfl,Z3 h.2⟩
theorem tN:∀ {as:List AS},OR as=as.map (·.i)
 | []=>rfl
 | s :: r=>by simp[OR,tN (as:=r)]
theorem AaB {bs:Nat->Nat}:∀ {as:List AS},atoms bs as=(as.map λs=>(s,bs s.i)).map λp=>p.1.atom p.2
 | []=>rfl
 | s :: r=>by simp[atoms,AaB (as:=r)]
theorem pL {bs:Nat->Nat} {i d:Nat} {v:Value}:∀ {as:List AS} {dn:I7},(i,d,v)∈avals bs as dn->(i,d,v)∈dn∨∃ s∈as,i=s.i∧d=s.d∧v=s.val (bs s.i)
 | [],_,h=>.inl h
 | s :: r,dn,h=>by
  rcases pL (as:=r) h with D | ⟨s',D,h2⟩
  . rcases List.mem_cons.1 D with D | D
    . cases D; exact .inr ⟨s,by simp,rfl,rfl,rfl⟩
    . exact .inl D
  . exact .inr ⟨s',cD _ D,h2⟩
theorem jL {bs:Nat->Nat}:∀ {as:List AS} {dn:I7},(∀ p∈dn,p∈avals bs as dn)∧∀ s∈as,(s.i,s.d,s.val (bs s.i))∈avals bs as dn
 | [],_=>⟨λ_ h=>h,by simp⟩
 | s :: r,dn=>by
  have ih:=jL (bs:=bs) (as:=r) (dn:=(s.i,s.d,s.val (bs s.i)) :: dn);refine⟨λp hp=>ih.1 p (cD _ hp),λ_ D=>?_⟩;rcases List.mem_cons.1 D with rfl | D
  . exact ih.1 _ (by simp)
  . exact ih.2 _ D
theorem uV {i c:Nat} (h:c≠i):Nat.beq c i=false:=by cases D:Nat.beq c i with | false=>rfl | true=>exact absurd (AhD D) h
theorem cG {bs:Nat->Nat} {i:Nat}:∀ {as:List AS} {dn:I7},i ∉ OR as->ID (avals bs as dn) i=ID dn i
 | [],_,_=>rfl
 | s :: r,dn,h=>by simp only[OR,T7,not_or] at h;rw[avals,cG h.2];simp only[ID,uV (Ne.symm h.1),cond_false]
theorem lV {bs:Nat->Nat}:∀ {as:List AS} {dn:I7},(OR as).Nodup->∀ s∈as,ID (avals bs as dn) s.i=some (s.d,s.val (bs s.i))
 | s :: r,dn,h,s',hs'=>by
  simp only[OR,uQ] at h;rcases List.mem_cons.1 hs' with rfl | hs'
  . rw[avals,cG h.1]; simp[ID]
  . exact lV h.2 s' hs'
theorem AaC {l:I7} {c:Nat} {x:Nat×Value} (h:ID l c=some x):(c,x)∈l:=by
 induction l with
 | nil=>simp[ID] at h
 | cons q l D=>
  simp only[ID] at h
  cases J:Nat.beq q.1 c with
  | true=>rw[J] at h; simp at h; have:=AhD J; subst h; subst this; simp
  | false=>rw[J] at h; exact cD _ (D h)
theorem uW {c d:Nat} {v:Value} {dn:I7} {js:List Nat} {a:Act} (h:EnvOk (JP ((c,d,v) :: dn) js E) a):EnvOk (JP dn js E) a:=by
 simp only[JP] at h
 cases D:LQ js c with
 | false=>rw[D] at h; exact h
 | true=>rw[D] at h; exact h.2
theorem PendL.push {c d:Nat} {v:Value} {dn:I7} {S:List HA->World->Prop} (J:∀ x,ID dn c≠some x):∀ {l:List Nat},PendL P ops n E dn S l->PendL P ops n E ((c,d,v) :: dn) S l
 | [],_=>trivial
 | f :: fs,⟨⟨o',d',v',h1,h2,hfr,h3,h4⟩,h5⟩=>by
  refine⟨⟨o',d',v',h1,h2,hfr,?_,λex O w' h D=>h4 ex O w' ⟨h.size,h.defers,uW h.env⟩ D⟩,PendL.push J h5⟩;have hne:c≠f:=λe=>by subst e; exact J _ h3
  simp only[ID,uV hne,cond_false]; exact h3
theorem PendL.app {dn:I7} {S:List HA->World->Prop} (g:List HA->List HA):∀ {l:List Nat},PendL P ops n E dn S l->PendL P ops n E dn (λex=>S (g ex)) l
 | [],_=>trivial
 | _ :: _,⟨⟨o',d',v',h1,h2,hfr,h3,h4⟩,h5⟩=>⟨⟨o',d',v',h1,h2,hfr,h3,λex=>h4 (g ex)⟩,PendL.app g h5⟩
theorem PendL.avals {bs:Nat->Nat} {S:List HA->World->Prop} {l:List Nat}:∀ {as:List AS} {dn:I7},(OR as).Nodup->(∀ c∈OR as,∀ x,ID dn c≠some x)->PendL P ops n E dn S l->PendL P ops n E (avals bs as dn) S l
 | [],_,_,_,h=>h
 | s :: r,dn,hn,hd,h=>by
  simp only[OR,uQ] at hn;refine PendL.avals (as:=r) hn.2 (λc J x=>?_) (h.push (hd s.i (by simp[OR])));have D:s.i≠c:=λe=>by subst e; exact hn.1 J
  simp only[ID,uV D,cond_false];exact hd c (by simp[OR,J]) x
theorem AaD {X:List Nat}:∀ {D:List Nat},AbY X D=true->∀ p∈D,p∈X
 | q :: D,h,p,hp=>by
  simp only[AbY,cE] at h;rcases List.mem_cons.1 hp with rfl | hp
  . exact ER.1 h.1
  . exact AaD h.2 p hp
theorem RI.norm {a:Act} {w:World}:∀ {cs:List (Option Nat)} {dn:I7} {X pend:List Nat} {as:List AS} {I:IH} {L:Sh} {ad:List (AS×Nat)},RI P ops n E Q w0 M I0 listed a w cs dn X pend as I L ad ->
    (∀ c∈TU cs,c ∉ OR as++X)->(TU cs).Nodup->∃ cs' dn' X' pend' as' L' ad',RI P ops n E Q w0 M I0 listed a w cs' dn' X' pend' as' I L' ad'∧(∀ c∈TU cs',c ∉ OR as'++X')∧(TU cs').Nodup∧(∀ c∈TU cs',c∈TU cs)∧(∀ c∈OR as'++X',c∈OR as++X∨c∈TU cs)∧(∀ i,(i∈OR as++X∨i∈TU cs)->(i∈OR as'++X'∨i∈TU cs')) ∧
      (cs'=[]∨(∃ r,cs'=none :: r∧∃ c∈OR as',listed.getD c false=false)∨∃ c r o,cs'=some c :: r∧ops[c]? = some o∧fA ops.toList (OR as'++X') c 0=true∧(as'=[]∨XV o E=E)∧∃ p',AhP ops c p' pend'∧∀ ex,Ops P ops [o] n (JP dn' (F4 o) E) (Sym w0 M I0 I (L' ex)) λe a w=>e=.normal∧a.defers=n.defs ∧
          ∃ I2 L2 dn2,iF o c dn' a dn2∧ShOk L2∧Sym w0 M I0 I2 (L2 ex) w∧PendL P ops n (XV o E) dn2 (λex=>Sym w0 M I0 I2 (L2 ex)) p'∧DrawD P ops n Q w0 M I0 (XV o E) r dn2 (c :: X') p' as' I2 L2):=by
  intro cs
  induction cs with
  | nil=>exact λh _ _=>⟨_,_,_,_,_,_,_,h,by simp[TU],by simp[TU],by simp[TU],λc hc=>.inl hc,λ_ h=>h,.inl rfl⟩
  | cons c? cs ih=>
    intro dn X pend as I L ad h hX hN
    cases c? with
    | none=>
      by_cases hall:∀ c∈OR as,listed.getD c false=true
      . -- the barrier falls
        have hd:=h.draw;simp only[DrawD] at hd
        have hex:∀ i,∃ b,∀ s∈as,s.i=i->(s,b)∈ad:=λi=>by
          by_cases hi:∃ s∈as,s.i=i
          . obtain⟨s,hs,rfl⟩:=hi;have⟨b,hb⟩:=h.adAll s hs (hall _ (VW.2 ⟨s,hs,rfl⟩));refine⟨b,λs' hs' e=>?_⟩;have hnd:=h.asNd;rw[tN] at hnd;rw[RL hnd hs' hs e]; exact hb
          . exact⟨0,λs hs e=>absurd ⟨s,hs,e⟩ hi⟩
        obtain⟨bs,hbs⟩:∃ bs:Nat->Nat,∀ s∈as,(s,bs s.i)∈ad:=⟨λi=>Classical.choose (hex i),λs hs=>Classical.choose_spec (hex s.i) s hs rfl⟩
        have hperm:(ad.map λp=>p.1.atom p.2).Perm (atoms bs as):=by
          rw[AaB];refine List.Perm.map _ ?_
          have hnd2:(as.map λs=>(s,bs s.i)).Nodup:=by have hnd:=h.asNd;rw[tN] at hnd;refine Z3 (f:=λp=>p.1.i) ?_;simpa[Function.comp_def] using hnd
          refine(yK (Z3 h.adNd) hnd2).2 λp=>⟨λhp=>?_,λhp=>?_⟩
          . have h1:=(h.adOk p hp).1;have:=RL h.adNd hp (hbs p.1 h1) rfl;exact List.mem_map.2 ⟨p.1,h1,this.symm⟩
          . obtain⟨s,hs,rfl⟩:=List.mem_map.1 hp;exact hbs s hs
        have hdl:∀ c∈OR as,∀ x,ID dn c≠some x:=λc hc x e=>h.asX c hc (h.dnOk c x.1 x.2 (AaC e)).1
        have H:RI P ops n E Q w0 M I0 listed a w cs (Fw.avals bs as dn) (OR as++X) pend [] I (λex=>L (Fw.atoms bs as++ex)) []:=by
          refine⟨hd.2.get bs,h.shape.app _,?_,h.size,h.defers,h.env,h.lsize,?_,?_,?_,h.inX,?_,?_,h.down,by simp[OR],by simp[OR],by simp,by simp,by simp,by simp⟩
          . refine h.sat.perm (((h.shape.front _).trans ?_).trans (h.shape.front _).symm);simp only[AjX,lP];exact hperm.append_right _
          . intro i d v hm hl;rcases pL hm with hm | ⟨s,hs,rfl,rfl,rfl⟩
            . exact h.val i d v hm hl
            . exact(h.adOk _ (hbs s hs)).2.2
          . intro i o d hi hd hm;rcases List.mem_append.1 hm with hm | hm
            . obtain⟨s,hs,rfl⟩:=VW.1 hm;have⟨o',ho',hd',_⟩:=(h.asSp s hs).1;rw[hi] at ho'; cases ho'; rw[hd] at hd'; cases hd';exact⟨_,jL.2 s hs⟩
            . have⟨v,hv⟩:=h.have_ i o d hi hd hm;exact⟨v,jL.1 _ hv⟩
          . intro i d v hm;rcases pL hm with hm | ⟨s,hs,rfl,rfl,rfl⟩
            . have⟨g1,g2,g3⟩:=h.dnOk i d v hm;exact⟨List.mem_append.2 (.inr g1),(cG (λhc=>h.asX i hc g1)).trans g2,g3⟩
            . have⟨o',ho',hd',_⟩:=(h.asSp s hs).1;exact⟨List.mem_append.2 (.inl (VW.2 ⟨s,hs,rfl⟩)),lV h.asNd s hs,o',ho',hd'⟩
          . intro i hi hl;rcases List.mem_append.1 hi with hi | hi
            . rw[hall i hi] at hl; cases hl
            . exact h.outX i hi hl
          . exact(h.pendL.app (λex=>Fw.atoms bs as++ex)).avals h.asNd hdl
        have g:=ih H (by simpa[OR,TU] using hX) hN;simp only[OR,AjQ] at g;exact g
      . refine⟨none :: cs,dn,X,pend,as,L,ad,h,hX,hN,λc hc=>hc,λc hc=>.inl hc,λ_ h=>h,.inr (.inl ⟨cs,rfl,?_⟩)⟩;refine At0 λhne=>hall λc hc=>?_
        cases hl:listed.getD c false with
        | true=>rfl
        | false=>exact absurd ⟨c,hc,hl⟩ hne
    | some c=>
    have hd:=h.draw;simp only[DrawD] at hd;simp only[TU,uQ] at hN;have hcX:c ∉ OR as++X:=hX c (by simp[TU]);have hnl:listed.getD c false=false:=by cases hl:listed.getD c false with | false=>rfl | true=>exact absurd (h.inX c hl) hcX
    obtain⟨o,ho,hd | hd | hd⟩:=hd
    . have⟨d,v,hod,hfr,hops,hdr⟩:=hd;have hcX':c ∉ X:=λhm=>hcX (List.mem_append.2 (.inr hm));have hcdn:∀ d v,(c,d,v) ∉ dn:=λd v hm=>hcX' (h.dnOk c d v hm).1
      have hdl:∀ i d' v',(i,d',v')∈dn->ID ((c,d,v) :: dn) i=some (d',v'):=λi d' v' hm=>by
        have hne:c≠i:=λe=>by subst e; exact hcdn _ _ hm
        simp only[ID,uV hne,cond_false]; exact(h.dnOk i d' v' hm).2.1
      suffices H:RI P ops n E Q w0 M I0 listed a w cs ((c,d,v) :: dn) (c :: X) (c :: pend) as I L ad∧(∀ c'∈TU cs,c' ∉ OR as++c :: X) by
        have⟨cs',dn',X',pend',as',L',ad',g1,g2,g3,g4,g5,g7,g6⟩:=ih H.1 H.2 hN.2;refine⟨cs',dn',X',pend',as',L',ad',g1,g2,g3,λc' hc'=>cD _ (g4 c' hc'),λc' hc'=>?_,λi hi=>g7 i ?_,g6⟩
        . rcases g5 c' hc' with h1 | h1
          . simp only[sW,T7,TU] at h1 ⊢;rcases h1 with h1 | rfl | h1
            . exact .inl (.inl h1)
            . exact .inr (.inl rfl)
            . exact .inl (.inr h1)
          . exact .inr (cD _ h1)
        . simp only[sW,T7,TU] at hi ⊢;rcases hi with(h1 | h1) | h1 | h1
          . exact .inl (.inl h1)
          . exact .inl (.inr (.inr h1))
          . exact .inl (.inr (.inl h1))
          . exact .inr h1
      refine⟨⟨hdr,h.shape,h.sat,h.size,h.defers,h.env,h.lsize,?_,?_,?_,λi hi=>?_,?_,?_,h.down,?_,h.asNd,?_,h.adOk,h.adAll,h.adNd⟩,λc' hc'=>?_⟩
      . intro i d' v' hm hl
        cases hm with
        | head=>rw[hnl] at hl; cases hl
        | tail _ hm=>exact h.val i d' v' hm hl
      . intro i o' d' hi hd' hm;rcases List.mem_cons.1 hm with rfl | hm
        . rw[ho] at hi; cases hi; rw[hod] at hd'; cases hd'; exact⟨v,by simp⟩
        . have⟨v',hv'⟩:=h.have_ i o' d' hi hd' hm; exact⟨v',cD _ hv'⟩
      . intro i d' v' hm
        cases hm with
        | head=>exact⟨by simp,by simp[ID],o,ho,hod⟩
        | tail _ hm=>exact⟨cD _ (h.dnOk i d' v' hm).1,hdl i d' v' hm,(h.dnOk i d' v' hm).2.2⟩
      . have:=h.inX i hi;simp only[sW,T7] at this ⊢;exact this.imp id .inr
      . intro i hi hl;rcases List.mem_cons.1 hi with rfl | hi
        . simp
        . exact cD _ (h.outX i hi hl)
      . refine⟨⟨o,d,v,ho,hod,hfr,by simp[ID],λex a' w' hok hs'=>hops ex a' w' ⟨hok.size,hok.defers,uW hok.env⟩ hs'⟩,h.pendL.push λx hx=>hcdn _ _ (AaC hx)⟩
      . intro c' hc' hm;rcases List.mem_cons.1 hm with rfl | hm
        . exact hcX (List.mem_append.2 (.inl hc'))
        . exact h.asX c' hc' hm
      . intro s hs;have⟨g1,g2⟩:=h.asSp s hs;refine⟨g1,λo' ho'=>⟨λp hp=>cD _ ((g2 o' ho').1 p hp),?_⟩⟩;have hnm:LQ (F4 o') c=false:=by cases hm:LQ (F4 o') c with | false=>rfl | true=>exact absurd ((g2 o' ho').1 c (ER.1 hm)) hcX'
        simp only[JP,hnm,cond_false];exact(g2 o' ho').2
      . intro hm;simp only[sW,T7] at hm;rcases hm with hm | rfl | hm
        . exact hX c' (by simp[TU,hc']) (List.mem_append.2 (.inl hm))
        . exact hN.1 hc'
        . exact hX c' (by simp[TU,hc']) (List.mem_append.2 (.inr hm))
    . have⟨d,val,atom,hod,hfr,hin,hsp,hdr⟩:=hd
      suffices H:RI P ops n E Q w0 M I0 listed a w cs dn X pend (⟨c,d,JP dn (F4 o) E,val,atom⟩ :: as) I L ad∧(∀ c'∈TU cs,c' ∉ OR (⟨c,d,JP dn (F4 o) E,val,atom⟩ :: as)++X) by
        have⟨cs',dn',X',pend',as',L',ad',g1,g2,g3,g4,g5,g7,g6⟩:=ih H.1 H.2 hN.2;refine⟨cs',dn',X',pend',as',L',ad',g1,g2,g3,λc' hc'=>cD _ (g4 c' hc'),λc' hc'=>?_,λi hi=>g7 i ?_,g6⟩
        . rcases g5 c' hc' with h1 | h1
          . simp only[OR,pH,T7,TU] at h1 ⊢;rcases h1 with rfl | h1
            . exact .inr (.inl rfl)
            . exact .inl h1
          . exact .inr (cD _ h1)
        . simp only[OR,pH,T7,TU] at hi ⊢;rcases hi with h1 | h1 | h1
          . exact .inl (.inr h1)
          . exact .inl (.inl h1)
          . exact .inr h1
      refine⟨⟨hdr,h.shape,h.sat,h.size,h.defers,h.env,h.lsize,h.val,h.have_,h.dnOk,λi hi=>cD _ (h.inX i hi),h.outX,h.pendL,h.down,?_,?_,?_,?_,?_,h.adNd⟩,λc' hc'=>?_⟩
      . intro c' hc';rcases List.mem_cons.1 hc' with rfl | hc'
        . exact λhm=>hcX (List.mem_append.2 (.inr hm))
        . exact h.asX c' hc'
      . exact List.nodup_cons.2 ⟨λhm=>hcX (List.mem_append.2 (.inl hm)),h.asNd⟩
      . intro s hs;rcases List.mem_cons.1 hs with rfl | hs
        . exact⟨hsp,λo' ho'=>by rw[ho] at ho'; cases ho'; exact⟨AaD hin,rfl,hfr⟩⟩
        . exact h.asSp s hs
      . intro p hp;exact⟨cD _ (h.adOk p hp).1,(h.adOk p hp).2⟩
      . intro s hs hl;rcases List.mem_cons.1 hs with rfl | hs
        . rw[hnl] at hl; cases hl
        . exact h.adAll s hs hl
      . simp only[OR,pH,T7,not_or];exact⟨λe=>hN.1 (e▸hc'),hX c' (by simp[TU,hc'])⟩
    . exact⟨some c :: cs,dn,X,pend,as,L,ad,h,hX,List.nodup_cons.2 hN,λc hc=>hc,λc hc=>.inl hc,λ_ h=>h,.inr (.inr ⟨c,cs,o,rfl,ho,hd.1,hd.2.1,hd.2.2⟩)⟩
theorem lW {X:List Nat}:∀ {k i:Nat},lU X k=true->i<k->i∈X
 | k+1,i,h,hi=>by
  simp only[lU,cE] at h;by_cases e:i=k
  . subst e; exact ER.1 h.1
  . exact lW h.2 (by omega)
theorem rK {l:List Oper}:∀ (k:Nat),X5 l k=true->∀ (i:Nat) (o:Oper),l[i]? = some o->∀ j,j<k+i->j∈F4 o:=by
 induction l with
 | nil=>intro k _ i o hi; simp at hi
 | cons o' l J=>
  intro k h i o hi j D;simp only[X5,cE] at h
  cases i with
  | zero=>simp at hi; subst hi; exact lW h.1 (by simpa using D)
  | succ i=>exact J (k+1) h.2 i o (by simpa using hi) j (by omega)
theorem Am1 {i:Nat} (hi:i∈Region.ready .any ops listed):i<ops.size∧listed.getD i true=false∧∃ o,ops[i]? = some o∧∀ p∈F4 o,listed.getD p false=true:=by rw[mem_ready] at hi;have⟨J,o,D,hp⟩:=hi;refine⟨(Array.getElem?_eq_some_iff.1 D).1,J,o,D,λp h=>?_⟩;obtain⟨e,U,O,rfl⟩:=eZ.1 h;exact hp e (by simpa using U) O
theorem Ap4 {t:Nat} (ht:X5 (ops.toList.drop t) t=true) (a2:jK ops.toList 0=true):∀ (D k:Nat) {listed:Array Bool} {a:Act} {w:World},t<=k->k<=ops.size->listed.size=ops.size->(∀ i,listed.getD i false=true↔i<k)->ops.size<=D+k ->
  wpListIn (X4 n) 0 P ops Q (ops.toList.drop k) a w->wpAnyIn (X4 n) 0 P .any ops Q D listed a w:=by
 have only:∀ {k:Nat} {listed:Array Bool} {i:Nat},t<=k->listed.size=ops.size->(∀ i,listed.getD i false=true↔i<k)->i∈Region.ready .any ops listed->i=k∧i<ops.size:=by
  intro k listed i V O U hi;have⟨h1,W,o,ho,hp⟩:=Am1 hi;refine⟨?_,h1⟩
  have a8:¬i<k:=λh=>by
    have:=(U i).2 h;have J:i<listed.size:=by omega
    simp only[lM,AhB J,sV] at this W;rw[this] at W; cases W
  rcases Z1 k i with h3 | h3
  . have Z:k∈F4 o:=rK t ht (i - t) o (by rw[AoE,show t+(i - t)=i by omega,AeN]; exact ho) k (by omega);have:=(U k).1 (hp k Z); omega
  . omega
 intro D
 induction D with
 | zero=>
  intro k listed a w V hk O U hf h;have e:k=ops.size:=by omega
  refine⟨?_,?_⟩
  . cases hr:Region.ready .any ops listed with
    | nil=>rfl
    | cons i r=>have:=only V O U (i:=i) (by rw[hr]; simp); omega
  . rw[e,List.drop_of_length_le (by simp)] at h; exact h
 | succ D ih=>
  intro k listed a w V hk O U hf h;refine⟨λhr=>?_,λi hi=>?_⟩
  . have e:k=ops.size:=by
      rcases Z1 k ops.size with J | a7
      . exfalso
        have:k∈Region.ready .any ops listed:=by
         rw[mem_ready];have a4:k<listed.size:=by omega
         refine⟨?_,ops[k],by simp[J],λe he hb=>?_⟩
         . cases hv:listed.getD k true with
           | false=>rfl
           | true=>
            have:listed.getD k false=true:=by simp only[lM,AhB a4,sV] at hv ⊢; exact hv
            have:=(U k).1 this; omega
         . have Z:e.on∈F4 ops[k]:=eZ.2 ⟨e,by simpa using he,hb,rfl⟩;have:=rJ 0 a2 k ops[k] (by rw[AeN]; simp[J]) e.on Z;exact(U e.on).2 (by omega)
        rw[hr] at this; cases this
      . omega
    rw[e,List.drop_of_length_le (by simp)] at h; exact h
  . obtain⟨rfl,J⟩:=only V O U hi
    have hd:ops.toList.drop i=ops[i] :: ops.toList.drop (i+1):=by rw[Ao7 (by simpa using J)]; simp
    rw[hd] at h;have a5:ops[i]? = some ops[i]:=by simp[J]
    have a6:∀ j,(listed.setIfInBounds i true).getD j false=true↔j<i+1:=λj=>by rw[HS (by omega),U j]; omega
    have step:∀ a w,wpListIn (X4 n) 0 P ops Q (ops.toList.drop (i+1)) a w->wpAnyIn (X4 n) 0 P .any ops Q D (listed.setIfInBounds i true) a w:=λa w h'=>
      ih (i+1) (by omega) (by omega) (by simpa using O) a6 (by omega) h'
    simp only[wpOpIn,a5];unfold wpListIn at h;split
    . rename_i hw;rw[if_pos hw] at h;exact Oper.wpIn_mono step h
    . rename_i hw;rw[if_neg hw] at h;exact⟨h.1,step _ _ h.2⟩
theorem fC (d:Nat):∀ E:DH,fresh (rmE d E) d=true
 | []=>rfl
 | p :: r=>by
  simp only[rmE]
  cases h:Nat.beq p.1 d with
  | true=>simpa using fC d r
  | false=>simp[fresh,h,fC d r]
theorem Ac0 {a:Act} (d:Nat):∀ {E:DH},EnvOk E a->EnvOk (rmE d E) a
 | [],_=>trivial
 | p :: r,h=>by
  simp only[rmE]
  cases D:Nat.beq p.1 d with
  | true=>simpa using Ac0 d h.2
  | false=>exact⟨h.1,Ac0 d h.2⟩
theorem AeO {o:Oper} {d:Nat} (D:o.dst=some d):fresh (XV o E) d=true:=by
 simp only[XV,D]
 cases h:fresh E d with
 | true=>exact h
 | false=>exact fC d E
theorem Ap5 {o:Oper} {a:Act} (h:EnvOk E a):EnvOk (XV o E) a:=by
 simp only[XV];split
 . exact h
 . rename_i d _
   cases D:fresh E d with
   | true=>exact h
   | false=>exact Ac0 d h
theorem Am2 {t:Nat} (l2:jJ n (ops.toList.take t) []=true) (i7:jK ops.toList 0=true) (i8:X5 (ops.toList.drop t) t=true) (ht:t<=ops.size):∀ (a8:Nat) {E:DH} {listed:Array Bool} {a:Act} {w:World} {cs:List (Option Nat)} {dn:I7} {X pend:List Nat} {as:List AS} {I:IH} {L:Sh} {ad:List (AS×Nat)},
  RI P ops n E Q w0 M I0 listed a w cs dn X pend as I L ad->(∀ c∈TU cs,c ∉ OR as++X)->(TU cs).Nodup->(∀ c∈TU cs,c<t)->(∀ c∈OR as++X,c<t)->(∀ i,i<t->i∈OR as++X∨i∈TU cs)->ops.size<=a8+(listed.toList.filter id).length->wpAnyIn (X4 n) 0 P .any ops Q a8 listed a w:=by
 -- all of the first t have k9: the tail
 have h7:∀ {a8:Nat} {E:DH} {listed:Array Bool} {a:Act} {w:World} {cs:List (Option Nat)} {dn:I7} {X pend:List Nat} {as:List AS} {I:IH} {L:Sh} {ad:List (AS×Nat)},RI P ops n E Q w0 M I0 listed a w cs dn X pend as I L ad->(∀ c∈TU cs,c ∉ OR as++X)->(TU cs).Nodup->(∀ c∈TU cs,c<t)->(∀ c∈OR as++X,c<t) ->
    (∀ i,i<t->listed.getD i false=true)->ops.size<=a8+t->wpAnyIn (X4 n) 0 P .any ops Q a8 listed a w:=by
  intro a8 E listed a w cs dn X pend as I L ad a2 hX hN c0 b0 a5 hf;have⟨f5,a9,X',m0,d4,L',d1,D,d9,d8,e3,f6,_,f7⟩:=a2.norm hX hN;have a7:∀ c∈OR d4++X',c<t:=λc Z=>(f6 c Z).elim (b0 c) (c0 c);rcases f7 with rfl | ⟨r,rfl,c,Z,V⟩ | ⟨c,r,o,rfl,ho,_⟩
  . have hd:=D.draw;simp only[DrawD] at hd;obtain⟨rfl,t',e4,l5,_,g9⟩:=hd
    have j3:d1=[]:=by
      cases d1 with
      | nil=>rfl
      | cons p r=>have:=(D.adOk p (by simp)).1; cases this
    subst j3;simp only[OR,AjQ] at a7;have i4:∀ i,listed.getD i false=true->i∈X':=λi hi=>by simpa[OR] using D.inX i hi
    have e:t'=t:=by
      rcases Nat.lt_trichotomy t' t with J | J | J
      . have:=l5 t' (i4 t' (a5 t' J)); omega
      . exact J
      . have:=a7 t (Z2 e4 J); omega
    subst e;refine Ap4 i8 i7 a8 t' (Z0 _) ht D.lsize (λi=>⟨λhi=>a7 i (i4 i hi),a5 i⟩) hf (g9 a w ⟨D.size,D.defers,Ak1 D.env λi d v O=>?_⟩ D.sat);exact D.val i d v O (a5 i (a7 i (D.dnOk i d v O).1))
  . rw[a5 c (a7 c (List.mem_append.2 (.inl Z)))] at V; cases V
  . have:=a5 c (c0 c (e3 c (by simp[TU])));exact absurd (D.inX c this) (d9 c (by simp[TU]))
 -- something is always left to do, where one of the first t has not k9
 have m1:∀ {listed:Array Bool},listed.size=ops.size->Region.ready .any ops listed=[]->∀ i,i<ops.size->listed.getD i false=true:=by
  intro listed i1 hr i
  induction i using Nat.strongRecOn with
  | _ i ih=>
    intro hi
    cases V:listed.getD i false with
    | true=>rfl
    | false=>
      exfalso;obtain⟨o,ho⟩:∃ o,ops[i]? = some o:=⟨ops[i],by simp[hi]⟩
      have:i∈Region.ready .any ops listed:=by
        rw[mem_ready];refine⟨?_,o,ho,λe he W=>?_⟩
        . have e1:i<listed.size:=by rw[i1]; exact hi
          simp only[lM,AhB e1,sV] at V ⊢; exact V
        . have O:e.on∈F4 o:=eZ.2 ⟨e,by simpa using he,W,rfl⟩;have:=rJ 0 i7 i o (by rw[AeN]; exact ho) e.on O;exact ih e.on (by omega) (by omega)
      rw[hr] at this; cases this
 have j0:∀ {listed:Array Bool},(∀ i,listed.getD i false=true↔i<t)->listed.size=ops.size->(listed.toList.filter id).length=t:=by
  intro listed V i1;have m2:=ht
  have e:listed.toList=List.replicate t true++List.replicate (ops.size - t) false:=by
    apply AjK;intro i;by_cases hi:i<ops.size
    . have e1:i<listed.size:=by omega
      have hv:=V i;simp only[lM,AhB e1,sV] at hv;rw[show listed.toList[i]? = some listed[i] by simp[e1]];by_cases J:i<t
      . rw[lN (by simpa using J)]; simp[J,hv.2 J]
      . rw[yL (by simpa using Nat.le_of_not_lt J)];have:listed[i]=false:=by cases W:listed[i] with | false=>rfl | true=>exact absurd (hv.1 W) J
        rw[this,At2,List.getElem?_replicate,if_pos (by omega)]
    . rw[At3 (by simp; omega),At3 (by simp; omega)]
  rw[e]; simp
 intro a8
 induction a8 with
 | zero=>
  intro E listed a w cs dn X pend as I L ad a2 hX hN c0 b0 i3 hf
  have a5:∀ i,i<ops.size->listed.getD i false=true:=by
    intro i hi
    have l4:(listed.toList.filter id).length=listed.toList.length:=by have J:=uN id listed.toList;have h2:=a2.lsize;simp only[AhF] at J ⊢;omega
    have:=List.length_filter_eq_length_iff.1 l4;have e1:i<listed.size:=by rw[a2.lsize]; exact hi
    have hx:=this listed[i] (by simp);simpa[lM,AhB e1] using hx
  have e:t=ops.size:=by
    rcases Z1 t ops.size with J | J
    . have:=b0 t (a2.inX t (a5 t J)); omega
    . omega
  exact h7 a2 hX hN c0 b0 (λi hi=>a5 i (by omega)) (by omega)
 | succ a8 ih=>
  intro E listed a w cs dn X pend as I L ad a2 hX hN c0 b0 i3 hf;by_cases a5:∀ i,i<t->listed.getD i false=true
  . have l3:∀ i,listed.getD i false=true↔i<t:=λi=>⟨λhi=>b0 i (a2.inX i hi),a5 i⟩;have:=j0 l3 a2.lsize;exact h7 a2 hX hN c0 b0 a5 (by omega)
  refine⟨λhr=>absurd (λi hi=>m1 a2.lsize hr i (by omega)) a5,λi hi=>?_⟩;rw[mem_ready] at hi;have⟨h8,o,ho,l6⟩:=hi;have hi:=(Array.getElem?_eq_some_iff.1 ho).1;have a4:i<listed.size:=by rw[a2.lsize]; exact hi
  have f3:listed.getD i false=false:=by simp only[lM,AhB a4,sV] at h8 ⊢; exact h8
  have d7:∀ p∈F4 o,listed.getD p false=true:=λp hp=>by obtain⟨e,he,W,rfl⟩:=eZ.1 hp;exact l6 e (by simpa using he) W
  have g0:i<t:=by
    rcases Z1 i t with J | J
    . exact J
    . exact absurd (λj h=>d7 j (rK t i8 (i - t) o (by rw[AoE,show t+(i - t)=i by omega,AeN]; exact ho) j (by omega))) a5
  have h6:ops.size<=a8+((listed.setIfInBounds i true).toList.filter id).length:=by
    have:((listed.setIfInBounds i true).toList.filter id).length=(listed.toList.filter id).length+1:=by
      rw[Array.toList_setIfInBounds]
      have W:listed.toList[i]? = some false:=by simp only[lM,AhB a4,sV] at f3;simp[a4,f3]
      have key:∀ (l:List Bool) (i:Nat),l[i]? = some false->((l.set i true).filter id).length=(l.filter id).length+1:=by
        intro l
        induction l with
        | nil=>intro i a2; simp at a2
        | cons b l k8=>
          intro i a2
          cases i with
          | zero=>simp at a2; subst a2; simp
          | succ i=>
            have:=k8 i (by simpa using a2);simp only[AoS,AoH];split <;> simp[this]
      exact key _ i W
    omega
  have⟨f5,a9,X',m0,d4,L',d1,D,d9,d8,e3,f6,l7,f7⟩:=a2.norm hX hN;have a7:∀ c∈OR d4++X',c<t:=λc Z=>(f6 c Z).elim (b0 c) (c0 c);have g8:∀ c∈TU f5,c<t:=λc Z=>c0 c (e3 c Z);have e8:∀ i,i<t->i∈OR d4++X'∨i∈TU f5:=λi hi=>l7 i (i3 i hi);clear a2 hX hN
  have j7:∀ d,o.dst=some d->Nat.blt d n.sz=true∧∀ j o',j<t->ops[j]? = some o'->o'.dst=some d->j=i:=λd hd=>by have⟨g1,_,g4⟩:=AeM [] l2 i o d (by rw[yN,if_pos g0,AeN]; exact ho) hd;exact⟨g1,λj o' g6 h=>g4 j o' (by rw[yN,if_pos g6,AeN]; exact h)⟩
  have i9:∀ {a':Act} {v:Value} {j d':Nat} {v':Value} {o':Oper},a'=a.put o.dst v->j<t->j≠i->ops[j]? = some o'->o'.dst=some d'->a.tmps[d']? = some v'->a'.tmps[d']? = some v':=by
    intro a' v j d' v' o' b1 g6 c1 a6 e5 hv;subst b1
    cases hd:o.dst with
    | none=>exact hv
    | some d=>
      have j6:¬d=d':=λe=>by subst e; exact c1 ((j7 d hd).2 j o' g6 a6 e5)
      simp only[Act.put,Ao5,if_neg j6];exact hv
  have f4:∀ {a':Act} {v:Value},a'=a.put o.dst v->a'.tmps.size=n.sz∧(∀ E2:DH,(∀ d,o.dst=some d->fresh E2 d=true)->EnvOk E2 a->EnvOk E2 a')∧(∀ j d' v',(j,d',v')∈a9->j≠i->listed.getD j false=true->a'.tmps[d']? = some v') ∧
      (∀ p∈d1,p.1.i≠i->a'.tmps[p.1.d]? = some (p.1.val p.2)):=by
    intro a' v b1;refine⟨?_,λE2 e6 hE=>?_,λj d' v' O c1 V=>?_,λp hp c1=>?_⟩
    . subst b1; cases hd:o.dst <;> simp[Act.put,D.size]
    . subst b1
      cases hd:o.dst with
      | none=>exact hE
      | some d=>exact hE.put (e6 d hd) v
    . have⟨g1,_,o',a6,e5⟩:=D.dnOk j d' v' O;exact i9 b1 (a7 j (List.mem_append.2 (.inr g1))) c1 a6 e5 (D.val j d' v' O V)
    . have⟨g1,g2,g3⟩:=D.adOk p hp;have⟨o',a6,e5,_⟩:=(D.asSp _ g1).1;exact i9 b1 (a7 _ (List.mem_append.2 (.inl (VW.2 ⟨_,g1,rfl⟩)))) c1 a6 e5 g3
  have l8:∀ {js:List Nat},(∀ p∈js,listed.getD p false=true)->Ok n (JP a9 js E) a:=λh=>⟨D.size,D.defers,Ak0 D.env λj d v O k1=>D.val j d v O (h j k1)⟩;have h0:Ok n (JP a9 (F4 o) E) a:=l8 d7
  have h5:∀ j o',(listed.setIfInBounds i true).getD j false=true->ops[j]? = some o'->∀ p∈F4 o',(listed.setIfInBounds i true).getD p false=true:=by
    intro j o' h a6 p hp;rw[HS a4] at h ⊢;rcases h with rfl | h
    . rw[ho] at a6; cases a6; exact .inr (d7 p hp)
    . exact .inr (D.down j o' h a6 p hp)
  have i2:∀ p∈d1,p.1.i≠i:=λp hp e=>by have:=(D.adOk p hp).2.1;rw[e,f3] at this; cases this
  have g7:∀ {a':Act} {v:Value},a'=a.put o.dst v->∀ p∈d1,p.1∈d4∧(listed.setIfInBounds i true).getD p.1.i false=true∧a'.tmps[p.1.d]? = some (p.1.val p.2):=λb1 p hp=>
    ⟨(D.adOk p hp).1,(HS a4).2 (.inr (D.adOk p hp).2.1),(f4 b1).2.2.2 p hp (i2 p hp)⟩
  by_cases hiX:i∈X'
  . -- a step that was shown already
    have k0:=D.outX i hiX f3;have⟨o2,d,v,J,h2,e6,h3,h4⟩:=D.pendL.get i k0;rw[ho] at J; cases J;refine uT D.defers ho (λe a w hq=>⟨hq.1,hq.2.1⟩) (h4 _ a w h0 D.sat) λa' w' d6 hp=>?_;have⟨v',d0⟩:=hp;have⟨g1,g2,g3,_⟩:=f4 d0;refine ih ⟨D.draw,D.shape,d6.2.2.2,g1,d6.2.1,g2 _ (λd2 d5=>by rw[h2] at d5; cases d5; exact e6) D.env,by simpa using D.lsize,?_,D.have_,D.dnOk,?_,?_,D.pendL,h5,D.asX,D.asNd,D.asSp,g7 d0,?_,D.adNd⟩ d9 d8 g8 a7 e8 h6
    . intro j d' v2 O V;by_cases e:j=i
      . subst e;have d5:=(D.dnOk j d' v2 O).2.1;rw[h3] at d5;cases d5;exact d6.2.2.1
      . exact g3 j d' v2 O e (((HS a4).1 V).resolve_left e)
    . intro j h;rcases(HS a4).1 h with rfl | h
      . exact List.mem_append.2 (.inr hiX)
      . exact D.inX j h
    . intro j h V;refine D.outX j h ?_
      cases hl':listed.getD j false with
      | false=>rfl
      | true=>rw[(HS a4).2 (.inr hl')] at V; cases V
    . intro s hs V;rcases(HS a4).1 V with e | V
      . exact absurd hiX (D.asX i (VW.2 ⟨s,hs,e⟩))
      . exact D.adAll s hs V
  . by_cases hia:i∈OR d4
    . -- a step that makes a block
      obtain⟨s,hs,rfl⟩:=VW.1 hia;have⟨⟨o2,e7,d5,hsp⟩,hen⟩:=D.asSp s hs;rw[ho] at e7; cases e7;have⟨_,k5,e6⟩:=hen o ho;refine uT D.defers ho (λe a w hq=>⟨hq.1,hq.2.1⟩) (hsp _ _ D.shape _ a w (by rw[<-k5]; exact h0) D.sat) λa' w' d6 hp=>?_;have⟨v',d0⟩:=hp;have⟨g1,g2,g3,_⟩:=f4 d0;have⟨_,f8,b,W,k7⟩:=d6;refine ih (ad:=(s,b) :: d1) ⟨D.draw,D.shape,k7,g1,f8,g2 _ (λd3 e9=>by rw[d5] at e9; cases e9; exact e6) D.env,by simpa using D.lsize,?_,D.have_,D.dnOk,?_,?_,D.pendL,h5,D.asX,D.asNd,D.asSp,?_,?_,?_⟩ d9 d8 g8 a7 e8 h6
      . intro j d' v2 O V;have c1:j≠s.i:=λe=>hiX (e▸(D.dnOk j d' v2 O).1);exact g3 j d' v2 O c1 (((HS a4).1 V).resolve_left c1)
      . intro j h;rcases(HS a4).1 h with rfl | h
        . exact List.mem_append.2 (.inl hia)
        . exact D.inX j h
      . intro j h V;refine D.outX j h ?_
        cases hl':listed.getD j false with
        | false=>rfl
        | true=>rw[(HS a4).2 (.inr hl')] at V; cases V
      . intro p hp;rcases List.mem_cons.1 hp with rfl | hp
        . exact⟨hs,(HS a4).2 (.inl rfl),W⟩
        . exact g7 d0 p hp
      . intro s' i0 V;rcases(HS a4).1 V with e | V
        . have h9:=D.asNd;rw[tN] at h9;rw[RL h9 i0 hs e];exact⟨b,by simp⟩
        . have⟨b',j4⟩:=D.adAll s' i0 V;exact⟨b',cD _ j4⟩
      . simp only[OU,uQ,gL,not_exists,not_and];exact⟨λp hp=>i2 p hp,D.adNd⟩
    have f9:i ∉ OR d4++X':=λO=>(List.mem_append.1 O).elim hia hiX
    -- the next step that turns memory
    rcases f7 with rfl | ⟨r,rfl,c,Z,V⟩ | ⟨c,r,o2,rfl,e7,j5,l1,p',k4,g9⟩
    . exact absurd ((e8 i g0).resolve_right (by simp[TU])) f9
    . have hd:=D.draw;simp only[DrawD] at hd;rcases AhR 0 hd.1 i o (by rw[AeN]; exact ho) with W | W | W
      . exact absurd (by simpa using W) f9
      . exact absurd (λp hp=>D.inX p (d7 p hp)) W
      . rw[d7 c (W c Z)] at V; cases V
    . have j9:i=c:=by
        rcases AbZ 0 j5 i o (by rw[AeN]; exact ho) with W | W | W
        . exact absurd (by simpa using W) f9
        . simpa using W
        . exact absurd (λp hp=>D.inX p (d7 p hp)) W
      subst j9;rw[ho] at e7; cases e7;refine uT D.defers ho (λe a w hq=>⟨hq.1,hq.2.1⟩) (g9 _ a w h0 D.sat) λa' w' d6 hp=>?_;have⟨v',d0⟩:=hp;have⟨g1,g2,g3,_⟩:=f4 d0;have⟨_,f8,_,_,f2,U,k6,j2,k3,j8⟩:=d6;simp only[TU,uQ] at d8;have i5:∀ d v,(i,d,v) ∉ a9:=λd v O=>hiX (D.dnOk i d v O).1
      have e3:∀ j d v,(j,d,v)∈f2->(j,d,v)∈a9∨(j=i∧o.dst=some d∧a'.tmps[d]? = some v):=by
        intro j d v O;unfold iF at U
        cases c2:o.dst with
        | none=>rw[c2] at U; subst U; exact .inl O
        | some d2=>
          rw[c2] at U;obtain⟨v2,e2,rfl⟩:=U
          cases O with
          | head=>exact .inr ⟨rfl,rfl,e2⟩
          | tail _ O=>exact .inl O
      have i6:∀ j d v,(j,d,v)∈a9->(j,d,v)∈f2∧ID f2 j=ID a9 j:=by
        intro j d v O;have f0:j≠i:=λe=>by subst e; exact i5 _ _ O
        unfold iF at U
        cases c2:o.dst with
        | none=>rw[c2] at U; subst U; exact⟨O,rfl⟩
        | some d2=>
          rw[c2] at U;obtain⟨v2,e2,rfl⟩:=U;exact⟨cD _ O,by simp only[ID,uV (Ne.symm f0),cond_false]⟩
      have l9:∀ {js:List Nat},i ∉ js->JP f2 js E=JP a9 js E:=by
        intro js h;unfold iF at U
        cases c2:o.dst with
        | none=>rw[c2] at U; subst U; rfl
        | some d2=>
          rw[c2] at U;obtain⟨v2,e2,rfl⟩:=U;have k2:LQ js i=false:=by cases O:LQ js i with | false=>rfl | true=>exact absurd (ER.1 O) h
          simp only[JP,k2,cond_false]
      refine ih ⟨j8,k6,j2,g1,f8,g2 _ (λd3 e9=>AeO e9) (Ap5 D.env),by simpa using D.lsize,?_,?_,?_,?_,?_,k3,h5,?_,D.asNd,?_,g7 d0,?_,D.adNd⟩ (λc' e4 O=>?_) d8.2 (λc Z=>g8 c (cD _ Z)) (λc Z=>?_) (λj h=>?_) h6
      . intro j d v O V;rcases e3 j d v O with O | ⟨rfl,_,hv⟩
        . have f0:j≠i:=λe=>by subst e; exact i5 _ _ O
          exact g3 j d v O f0 (((HS a4).1 V).resolve_left f0)
        . exact hv
      . intro j o2 d h hd O;rcases List.mem_cons.1 O with rfl | O
        . rw[ho] at h; cases h;unfold iF at U;rw[hd] at U;obtain⟨v2,_,rfl⟩:=U;exact⟨v2,by simp⟩
        . have⟨v,hv⟩:=D.have_ j o2 d h hd O;exact⟨v,(i6 j d v hv).1⟩
      . intro j d v O;rcases e3 j d v O with f1 | ⟨rfl,hd,hv⟩
        . exact⟨cD _ (D.dnOk j d v f1).1,(i6 j d v f1).2.trans (D.dnOk j d v f1).2.1,(D.dnOk j d v f1).2.2⟩
        . refine⟨by simp,?_,o,ho,hd⟩;unfold iF at U;rw[hd] at U;obtain⟨v2,e2,rfl⟩:=U;rw[hv] at e2; cases e2;simp[ID]
      . intro j h;simp only[sW,T7];rcases(HS a4).1 h with rfl | h
        . exact .inr (.inl rfl)
        . exact(List.mem_append.1 (D.inX j h)).imp id .inr
      . intro j h V
        have g5:listed.getD j false=false:=by
          cases hl':listed.getD j false with
          | false=>rfl
          | true=>rw[(HS a4).2 (.inr hl')] at V; cases V
        rcases List.mem_cons.1 h with rfl | h
        . rw[(HS a4).2 (.inl rfl)] at V; cases V
        . rcases k4 j (D.outX j h g5) with J | ⟨k,J⟩
          . exact J
          . rw[AhQ D.down k j i o ho d7 J] at g5; cases g5
      . intro c Z O;rcases List.mem_cons.1 O with rfl | O
        . exact hia Z
        . exact D.asX c Z O
      . intro s hs;have⟨q1,q2⟩:=D.asSp s hs;have j1:XV o E=E:=l1.resolve_left λe=>by subst e; cases hs
        refine⟨q1,λo' a6=>⟨λp hp=>cD _ ((q2 o' a6).1 p hp),?_⟩⟩;rw[j1,l9 λO=>hiX ((q2 o' a6).1 i O)];exact(q2 o' a6).2
      . intro s hs V;rcases(HS a4).1 V with e | V
        . exact absurd (VW.2 ⟨s,hs,e⟩) hia
        . exact D.adAll s hs V
      . simp only[sW,T7] at O;rcases O with O | rfl | O
        . exact d9 c' (by simp[TU,e4]) (List.mem_append.2 (.inl O))
        . exact d8.1 e4
        . exact d9 c' (by simp[TU,e4]) (List.mem_append.2 (.inr O))
      . simp only[sW,T7] at Z;rcases Z with Z | rfl | Z
        . exact a7 c (List.mem_append.2 (.inl Z))
        . exact g0
        . exact a7 c (List.mem_append.2 (.inr Z))
      . have:=e8 j h;simp only[sW,T7,TU] at this ⊢;rcases this with(J | J) | rfl | J
        . exact .inl (.inl J)
        . exact .inl (.inr (.inr J))
        . exact .inl (.inr (.inl rfl))
        . exact .inr J
def uX:List Nat->Bool
 | []=>true
 | x :: l=>!LQ l x && uX l
theorem rL:∀ {l:List Nat},uX l=true->l.Nodup
 | [],_=>.nil
 | x :: l,h=>by simp only[uX,cE,Bool.not_eq_true'] at h;exact List.nodup_cons.2 ⟨uU h.1,rL h.2⟩
theorem Cod.draw {id:Nat} {l:List Oper} {I:IH} (cs:List (Option Nat)) (t:Nat) (hm:P.follows .mixedOrders=true) (O:jJ n (l.take t) []=true) (h2:jK l 0=true)
   (h3:X5 (l.drop t) t=true) (U:uX (TU cs)=true) (V:Nat.ble t l.length=true) (h6:(TU cs).all (Nat.blt · t)=true) (h7:RX (TU cs) t=true) (L:Sh) (hL:∀ X ex,Del (L (X :: ex)) X (L ex)) (Z:l0=L [])
   (h:DrawD P l.toArray n Q w0 M I0 E cs [] [] [] [] I L):Cod P (.region id l.toArray true) n E (Sym w0 M I0 I l0) Q:=by
 intro a w D J
 refine wpIn_region_any hm (Am2 (t:=t) (by simpa using O) (by simpa using h2) (by simpa using h3) (by simpa using V) _ (cs:=cs) (dn:=[]) (X:=[]) (pend:=[]) (as:=[]) (I:=I) (L:=L) (ad:=[])
   ⟨h,λX ex=>(hL X ex).perm,by rw[Z] at J; exact J.drew _ (AjZ _),D.size,D.defers,D.env,by simp,by simp,by simp,by simp,?_,by simp,trivial,?_,by simp[OR],by simp[OR],by simp,by simp,by simp,by simp⟩ (by simp[OR]) (rL U) (λc W=>by have:=List.all_eq_true.1 h6 c W; simpa[Nat.blt_eq] using this) (by simp[OR]) (λi hi=>.inr (Z2 h7 hi)) (by simp))
 . intro i hi;simp only[lM,Array.getElem?_replicate] at hi;split at hi <;> simp at hi
 . intro i o hi;simp only[lM,Array.getElem?_replicate] at hi;split at hi <;> simp at hi
section
variable {cs:List (Option Nat)} {c d:Nat} {dn:I7} {X pend:List Nat} {as:List AS} {I:IH} {L:Sh} {o:Oper} {v:Value}
theorem DrawD.f (js:List Nat) (U:ops[c]? = some o) (J:F4 o=js) (O:o.dst=some d) (D:fresh E d=true)
  (h:∀ ex,Ops P ops [o] n (JP dn js E) (Sym w0 M I0 I (L ex)) (Fin n (Sym w0 M I0 I (L ex)) d v)) (k:DrawD P ops n Q w0 M I0 E cs ((c,d,v) :: dn) (c :: X) (c :: pend) as I L):DrawD P ops n Q w0 M I0 E (some c :: cs) dn X pend as I L:=
 ⟨o,U,.inl ⟨d,v,O,D,by rw[J]; exact h,k⟩⟩
theorem Fin.mk {S:World->Prop} {d:Nat} {v:Value} {E:DH}:Ops P ops [] n ((d,v) :: E) S (Fin n S d v):=λ_ _ h D=>⟨rfl,h.defers,h.env.1,D⟩
def APost (n:FrK) (w0:World) (M:Nat->Prop) (I0 I:IH) (d:Nat) (val:Nat->Value) (atom:Nat->HA) (L:Sh) (ex:List HA):Exit->Act->World->Prop:=λe a w=>e=.normal∧a.defers=n.defs∧∃ b,a.tmps[d]? = some (val b)∧Sym w0 M I0 I (L (atom b :: ex)) w
theorem APost.mk {val:Nat->Value} {atom:Nat->HA} (D:ShOk L) (b:Nat) {E':DH}:Ops P ops [] n ((d,val b) :: E') (Sym w0 M I0 I (atom b :: L ex)) (APost n w0 M I0 I d val atom L ex):=
 λ_ _ h J=>⟨rfl,h.defers,b,h.env.1,J.perm (D _ _).symm⟩
theorem DrawD.a (val:Nat->Value) (atom:Nat->HA) (O:ops[c]? = some o) (J:o.dst=some d) (D:fresh E d=true) (hi:AbY X (F4 o)=true)
  (h:∀ (I:IH) (L:Sh),ShOk L->∀ ex,Ops P ops [o] n (JP dn (F4 o) E) (Sym w0 M I0 I (L ex)) (APost n w0 M I0 I d val atom L ex))
  (k:DrawD P ops n Q w0 M I0 E cs dn X pend (⟨c,d,JP dn (F4 o) E,val,atom⟩ :: as) I L):DrawD P ops n Q w0 M I0 E (some c :: cs) dn X pend as I L:=
 ⟨o,O,.inr (.inl ⟨d,val,atom,J,D,hi,⟨o,O,J,h⟩,k⟩)⟩
theorem DrawD.b (J:AeK (OR as) X ops.toList 0=true) (k:barD as dn L λh D=>DrawD P ops n Q w0 M I0 E cs h (OR as++X) pend [] I D):DrawD P ops n Q w0 M I0 E (none :: cs) dn X pend as I L:=⟨J,k⟩
theorem DrawD.nop (h:DrawD P ops n Q w0 M I0 E cs dn X pend as I L):DrawD P ops n Q w0 M I0 E cs dn X pend as I L:=h
def WPost (P:Program) (ops:Array Oper) (n:FrK) (E:DH) (Q:Exit->Act->World->Prop) (w0:World) (M:Nat->Prop) (I0:IH) (o:Oper) (c:Nat) (cs:List (Option Nat)) (dn:I7) (X h:List Nat) (as:List AS) (ex:List HA):Exit->Act->World->Prop:=
 λe a w=>e=.normal∧a.defers=n.defs∧∃ O J D,iF o c dn a D∧ShOk J∧Sym w0 M I0 O (J ex) w∧PendL P ops n E D (λex=>Sym w0 M I0 O (J ex)) h∧DrawD P ops n Q w0 M I0 E cs D (c :: X) h as O J
theorem WPost.some {h:List Nat} {E':DH} (L:Sh) (U:l0=L ex) (O:∀ X ex,Del (L (X :: ex)) X (L ex)) (V:o.dst=some d) (hp:PendL P ops n E ((c,d,v) :: dn) (λex=>Sym w0 M I0 I (L ex)) h)
  (k:DrawD P ops n Q w0 M I0 E cs ((c,d,v) :: dn) (c :: X) h as I L):Ops P ops [] n ((d,v) :: E') (Sym w0 M I0 I l0) (WPost P ops n E Q w0 M I0 o c cs dn X h as ex):=
 λ_ _ J D=>⟨rfl,J.defers,I,L,_,by unfold iF; rw[V]; exact⟨v,J.env.1,rfl⟩,λX ex=>(O X ex).perm,by rw[U] at D; exact D,hp,k⟩
theorem WPost.none {h:List Nat} {E':DH} (L:Sh) (O:l0=L ex) (J:∀ X ex,Del (L (X :: ex)) X (L ex)) (U:o.dst=none) (hp:PendL P ops n E dn (λex=>Sym w0 M I0 I (L ex)) h)
  (k:DrawD P ops n Q w0 M I0 E cs dn (c :: X) h as I L):Ops P ops [] n E' (Sym w0 M I0 I l0) (WPost P ops n E Q w0 M I0 o c cs dn X h as ex):=
 λ_ _ V D=>⟨rfl,V.defers,I,L,_,by unfold iF; rw[U],λX ex=>(J X ex).perm,by rw[O] at D; exact D,hp,k⟩
theorem DrawD.e (t:Nat) (J:RX X t=true) (D:X.all (Nat.blt · t)=true) (O:X5 (ops.toList.drop t) t=true) (k:Ops P ops (ops.toList.drop t) n (Ap2 dn E) (Sym w0 M I0 I (L [])) Q):DrawD P ops n Q w0 M I0 E [] dn X pend [] I L:=
 ⟨rfl,t,J,λx h=>by have:=List.all_eq_true.1 D x h; simpa[Nat.blt_eq] using this,O,k⟩
end
end
section
variable {w0 w:World} {M:Nat→Prop} {I0 I:IH} {m m':List HA}
variable {P:Program} {n:FrK} {E:DH} {S:World→Prop} {Q:Exit→Act→World→Prop} {ops:Array Oper} {l:List Oper}
variable {d ty:Nat} {pos:String} {af:Array Edge} {T e:TypeId} {x y:Operand}
variable {α:Type} {El:EE α} {xs ys:List α} {a:Option Addr} {cap:Nat}
/-! ### Changes of what is known -/
variable {fn:Func} {rs:List ResultVar} {ψ:IH→Value→Prop} {ds:List Nat}
theorem Cod.drop {c:Code} {A:HA} (D:Del m A m') (k:Cod P c n E (Sym w0 M I0 I m') Q):Cod P c n E (Sym w0 M I0 I m) Q:=Cod.pre (λ_ h=>(h.del D).drop) k
theorem Ops.own0 (El:EE α) (T:TypeId) (k:Ops P ops l n E (Sym w0 M I0 I (OwnSl El T none 0 [] :: m)) Q):Ops P ops l n E (Sym w0 M I0 I m) Q:=Ops.pre (λ_ h=>h.own0 El T) k
theorem Cod.own0 {c:Code} (El:EE α) (T:TypeId) (k:Cod P c n E (Sym w0 M I0 I (OwnSl El T none 0 [] :: m)) Q):Cod P c n E (Sym w0 M I0 I m) Q:=Cod.pre (λ_ h=>h.own0 El T) k
theorem Ops.pub (J:Del m (OwnSl El T a cap xs) m') (k:∀ h,I.le h->RepSl El h a cap xs->Ops P ops l n E (Sym w0 M I0 h m') Q):Ops P ops l n E (Sym w0 M I0 I m) Q:=
 λc w W O=>by have⟨h,D,V,U⟩:=O.pubSl J; exact k h D V c w W U
theorem Cod.pub {c:Code} (J:Del m (OwnSl El T a cap xs) m') (k:∀ h,I.le h->RepSl El h a cap xs->Cod P c n E (Sym w0 M I0 h m') Q):Cod P c n E (Sym w0 M I0 I m) Q:=
 λc w W O=>by have⟨h,D,V,U⟩:=O.pubSl J; exact k h D V c w W U
theorem pM {f:FuncId} {args:Array Value} {R:Ending->World->Prop} (h:Calls P f args w R):CallsIn (X4 n) 0 P f args w R:=callsIn_wide.2 h
def evs (E:DH):List Operand->Option (List Value)
 | []=>some []
 | x :: r=>match ev E x,evs E r with
  | some v,some vs=>some (v :: vs)
  | _,_=>none
theorem VX {c:Act} (J:Ok n E c):∀ {xs:List Operand} {vs:List Value},evs E xs=some vs->xs.map c.eval=vs:=by
 intro xs
 induction xs with
 | nil=>grind[evs]
 | cons x r D=>
  intro vs h;simp only[evs] at h
  cases O:ev E x with
  | none=>rw[O] at h; simp at h
  | some v=>
   cases U:evs E r with
   | none=>grind
   | some V=>rw[O,U] at h; simp at h; subst h; simp[J.eval O,D U]
def B7 (P:Program) (f:FuncId) (vs:List Value) (I:IH) (ψ:IH->Value->Prop):Prop:=Fun P f vs.toArray I [] λh v l=>l=[]∧ψ h v
theorem Ops.callF {g:FuncId} {args:List Operand} {vs:List Value} {J:Array TypeId} {mf mr:List HA} {φ:IH->Value->List HA->Prop} (hg:∀ as w,(callFunc g as).run P w=.ok (.enter g as) w)
  (ha:evs E args=some vs) (hf:Fun P g vs.toArray I mf φ) (hb:Nat.blt d n.sz=true) (W:fresh E d=true)
  (k:∀ v D U,I.le D->φ D v U->Ops P ops l n ((d,v) :: E) (Sym w0 M I0 D (U++mr)) Q) :
  Ops P ops (⟨some d,.call ⟨.value (.func g),args.toArray,J⟩,ty,pos,af,none⟩ :: l) n E (Sym w0 M I0 I (mf++mr)) Q:=by
 intro c w h hs;refine wpListIn_plain rfl λ_ hK=>?_
 have O:(execOp c.eval ⟨some d,.call ⟨.value (.func g),args.toArray,J⟩,ty,pos,af,none⟩).run P w=.ok (.enter g vs.toArray) w:=by
  have e:args.toArray.map c.eval=vs.toArray:=by simp[VX h ha]
  simp only[execOp,resolve,e,Act.eval,Deferred.ofValue,Sem.run_bind,Sem.run_pure,Result.andThen_ok,invoke];simp[hg]
 refine lR O (by simp) ?_;simp only[Oper.uponIn];refine⟨λa2=>(by cases a2),pM (hf.use hs λv D U _ V hφ Z=>hK _ _ (k v D U V hφ _ _ (h.put hb W v) Z))⟩
theorem Ops.call {g:FuncId} {args:List Operand} {vs:List Value} {O:Array TypeId} (hg:∀ as w,(callFunc g as).run P w=.ok (.enter g as) w)
  (Z:evs E args=some vs) (V:B7 P g vs I ψ) (hb:Nat.blt d n.sz=true) (J:fresh E d=true)
  (k:∀ v h,I.le h->ψ h v->Ops P ops l n ((d,v) :: E) (Sym w0 M I0 h m) Q) :
  Ops P ops (⟨some d,.call ⟨.value (.func g),args.toArray,O⟩,ty,pos,af,none⟩ :: l) n E (Sym w0 M I0 I m) Q:=
 Ops.callF (mf:=[]) (mr:=m) hg Z V hb J λv h _ D U=>by obtain⟨rfl,W⟩:=U; exact k v h D W
abbrev IJ (P:Program) (fn:Func) (R:Ending->World->Prop):Exit->Act->World->Prop:=bodyPostM Fence.wide 0 P fn R
inductive ArgsE:Nat→List Value→DH→Prop
 | n {i:Nat}:ArgsE i [] []
 | c {i:Nat} {v:Value} {vs:List Value} {E:DH} (h:ArgsE (i+1) vs E):ArgsE i (v :: vs) ((i,v) :: E)
theorem ArgsE.ok {i:Nat} {vs:List Value} {E:DH} (h:ArgsE i vs E):∀ (D:List Value) (r:Array Value),D.length=i->EnvOk E { tmps:=(D++vs).toArray++r,defers:=[] }:=by
 induction h with
 | n=>exact λ_ _ _=>trivial
 | @c i v vs E _ O=>
  intro D r J;refine⟨?_,?_⟩
  . grind
  . have:=O (D++[v]) r (by simp[J]);grind
theorem Fun.enter {f:FuncId} {c:Code} {z:Nat} {vs:List Value} {l:List HA} {φ:IH->Value->List HA->Prop} (O:P.funcs[f]? = some fn) (U:fn.body=some c) (hn:fn.ntmps=z) (Z:Nat.ble vs.length z=true) (D:ArgsE 0 vs E)
   (k:∀ w M,Cod P c ⟨z,[],none⟩ E (Sym w M I I l) (IJ P fn (SX w M I φ))):Fun P f vs.toArray I l φ:=by
 intro w h hi V W J;refine callsIn_wide.1 (callsIn_of_wp_marks O U trivial (k w _ _ w ⟨?_,rfl,?_⟩ (Fun.start hi V W J)))
 . simp_all
 . exact D.ok [] _ rfl
inductive ResR (P:Program) (E:DH) (m:List HA):List ResultVar→List Value→Prop
 | n:ResR P E m [] []
 | t {t:Nat} {v:Value} {rs:List ResultVar} {vs:List Value} (h:look E t=some v) (k:ResR P E m rs vs):ResR P E m (.tmp t :: rs) (v :: vs)
 | w {t b s:Nat} {T:TypeId} {cs:List Value} {m':List HA} {T':TypeId} {fz:Nat×Nat} {rs:List ResultVar} {vs:List Value} (hT:∀ w,(isAgg T).run P w=.ok true w) (hS:∀ w,(sizeOf T).run P w=.ok s w)
  (h:look E t=some (.pointer (some ⟨b,0,none⟩))) (hA:Del m (pto b (.cells cs.toArray T' fz)) m') (hl:cs.length=s) (k:ResR P E m rs vs):ResR P E m (.cell t T :: rs) (.agg cs.toArray :: vs)
 | s {t b:Nat} {T:TypeId} {v:Value} {m':List HA} {T':TypeId} {fz:Nat×Nat} {rs:List ResultVar} {vs:List Value} (hT:∀ w,(isAgg T).run P w=.ok false w) (h:look E t=some (.pointer (some ⟨b,0,none⟩)))
  (hA:Del m (pto b (.cells #[v] T' fz)) m') (k:ResR P E m rs vs):ResR P E m (.cell t T :: rs) (v :: vs)
def AhS (c:Act):ResultVar->Sem Value
 | .tmp t=>pure (c.tmps.getD t undef)
 | .cell a t=>do loadVar t (<-asAddr (c.tmps.getD a undef))
theorem ResR.run {vs:List Value} (h:ResR P E m rs vs) {c:Act} (V:Ok n E c) (W:Sym w0 M I0 I m w):(rs.mapM (AhS c)).run P w=.ok vs w:=by
 induction h with
 | n=>rfl
 | t h k J=>
  have e:=V.env.look h;rw[Ap0];simp only[AhS,lM,e,sV,Sem.run_bind,Sem.run_pure,Result.andThen_ok,J]
 | @w t b s T cs m' Z fz rs vs U hS h O D k J=>
  have e:=V.env.look h
  have D:(loadVar T ⟨b,0,none⟩).run P w=.ok (.agg cs.toArray) w:=by have:=LN (P:=P) (w:=w) (T:=T) (b:=b) (off:=0) (vs:=cs) U hS D (λ_ v hj=>(NN (W.del O).pto).trans (by simpa using hj));simpa[Instr.loadAt,Instr.sureAddr] using this
  rw[Ap0];simp only[AhS,lM,e,sV,Sem.run_bind,asAddr,Sem.run_pure,Result.andThen_ok,D,J]
 | @s t b T v m' Z fz rs vs U h O k J=>
  have e:=V.env.look h;have hc:w.cell? ⟨b,0,none⟩=some v:=(NN (W.del O).pto).trans (by simp)
  have D:(loadVar T ⟨b,0,none⟩).run P w=.ok v w:=by have:=RW (P:=P) (w:=w) (T:=T) (b:=b) (off:=0) U hc;simpa[Instr.loadAt,Instr.sureAddr] using this
  rw[Ap0];simp only[AhS,lM,e,sV,Sem.run_bind,asAddr,Sem.run_pure,Result.andThen_ok,D,J]
def tup:List Value->Value
 | [v]=>v
 | vs=>.tuple vs.toArray
theorem ResR.resultsOf {vs:List Value} (h:ResR P E m rs vs) (O:fn.results=rs.toArray) {c:Act} (V:Ok n E c) (J:Sym w0 M I0 I m w):(results fn c.tmps).run P w=.ok (tup vs) w:=by
 have D:=h.run V J
 have e:∀ f:ResultVar->Sem Value,(∀ r,f r=AhS c r)->fn.results.mapM f=(do pure (<-rs.mapM (AhS c)).toArray:Sem (Array Value)):=λf U=>by rw[O,Av9,map_eq_pure_bind,show f=AhS c from funext U]
 unfold Go.results;rw[e _ (λr=>by cases r <;> rfl)];simp only[Sem.run_bind,D,Result.andThen_ok,Sem.run_pure];congr 1
 match vs with
 | []=>rfl
 | [v]=>rfl
 | u :: v :: r=>simp[tup]
def AvC (A B:HA):HA where
 holds I h:=∃ h1 h2:IH,h1.disj h2∧h1.le h∧h2.le h∧A.holds I h1∧B.holds I h2
 mono hI hh:=λ⟨h1,h2,a,b,c,d,e⟩=>⟨h1,h2,a,b.trans hh,c.trans hh,A.mono hI (IH.le.refl _) d,B.mono hI (IH.le.refl _) e⟩
def AxO:HA:=⟨λ_ _=>True,λ_ _ _=>trivial⟩
theorem Sym.emp:Sym w0 M I0 I (AxO :: m) w↔Sym w0 M I0 I m w:=by
 constructor
 . exact λh=>h.drop
 . rintro⟨D,hi,O,k,J,hk,U,V⟩;exact⟨D,hi,O,k,⟨λ_=>none,k,λ_=>.inl rfl,(λ_ _ x=>nomatch x),IH.le.refl _,trivial,J⟩,hk,U,V⟩
theorem Sym.star {A B:HA}:Sym w0 M I0 I (AvC A B :: m) w↔Sym w0 M I0 I (A :: B :: m) w:=by
 constructor
 . rintro⟨O,hi,U,k,⟨h1,h2,hd',hl1,hl2,⟨W,V,a,b,c,d,e⟩,hs'⟩,hk,hdj,hm⟩;refine⟨O,hi,U,k,⟨W,V.union h2,?_,b.trans hl1,IH.union_le (c.trans hl1) hl2,d,V,h2,hd'.mono c (IH.le.refl _),IH.le_union_left _ _,IH.le_union_right (hd'.mono c (IH.le.refl _)),e,hs'⟩,hk,hdj,hm⟩;intro x;rcases a x with h | h
   . exact .inl h
   . rcases(hd'.mono b (IH.le.refl h2)) x with D | D
     . exact .inl D
     . right; simp[IH.union,h,D]
 . rintro⟨O,hi,U,k,⟨h1,h2,hd',hl1,hl2,ha,h3,h4,hd2,hl3,hl4,hb2,hs'⟩,hk,hdj,hm⟩;have J:=hd'.mono (IH.le.refl _) hl3;refine⟨O,hi,U,k,⟨h1.union h3,h4,?_,IH.union_le hl1 (hl3.trans hl2),hl4.trans hl2,⟨h1,h3,J,IH.le_union_left _ _,IH.le_union_right J,ha,hb2⟩,hs'⟩,hk,hdj,hm⟩;intro x;rcases hd2 x with h | h
   . rcases(hd'.mono (IH.le.refl _) hl4) x with D | D
     . left; simp[IH.union,h,D]
     . exact .inr D
   . exact .inr h
def NB:List Nat->HA
 | []=>AxO
 | D :: ds=>AvC (pto D (.deferred (some []))) (NB ds)
theorem Sym.marks0 (h:Sym w0 M I0 I m w):Sym w0 M I0 I (NB [] :: m) w:=Sym.emp.2 h
theorem Sym.marksCons {D:Nat} :Sym w0 M I0 I (NB (D :: ds) :: m) w↔Sym w0 M I0 I (Fw.pto D (.deferred (some [])) :: NB ds :: m) w:=Sym.star
theorem Ak3 {vs:List Value} {tmps:Array Value} {R:Ending->World->Prop} (W:fn.results=rs.toArray) (h:ResR P E m rs vs):∀ {ds:List Nat} {w:World} {c:Act},
  EnvOk E c->c.tmps=tmps->Sym w0 M I0 I (NB ds :: m) w->(∀ w',Sym w0 M I0 I m w'->R (.returned (tup vs)) w')->LeavesInM Fence.wide 0 P fn tmps R (ds.map mkM) .returning w
 | [],w,c,ho,ht,hs,hR=>by
  have J:=hs.drop
  have O:=h.resultsOf (n:=⟨c.tmps.size,[],none⟩) W (c:={ tmps:=c.tmps,defers:=[] }) ⟨rfl,rfl,by
   clear h; induction E with
   | nil=>trivial
   | cons p E ih=>exact⟨ho.1,ih ho.2⟩⟩ J
  subst ht;exact⟨_,O,hR _ J⟩
 | D :: ds,w,c,ho,ht,hs,hR=>by have J:=Sym.marksCons.1 hs;have Z:=J.pto;refine⟨by simp,.inl ⟨D,w.putObj D (.deferred none),rfl,run_takeDeferred Z,?_⟩⟩;have U:D<w.heap.size:=(Array.getElem?_eq_some_iff.1 Z).1;have V:=J.upd (o':=.deferred none) (w':=w.putObj D (.deferred none)) rfl rfl rfl rfl (by simp) (λ_ hq=>World.putObj_heap_other hq) (World.putObj_heap_same U);exact Ak3 W h ho ht V.drop hR
theorem Ap6 {z:Nat} {D:List HA} (O:Del D (NB ds) m) {vs:List Value} {R:Ending->World->Prop} {c:Act} (J:Ok ⟨z,ds,none⟩ E c) (h:ResR P E m rs vs) (W:fn.results=rs.toArray) (U:Sym w0 M I0 I D w)
  (V:∀ w',Sym w0 M I0 I m w'->R (.returned (tup vs)) w'):LeavesInM Fence.wide 0 P fn c.tmps R c.defers .returning w:=by
 rw[J.defers];exact Ak3 W h J.env rfl (U.del O) V
theorem Ap7 {z:Nat} {vs:List Value} {R:Ending->World->Prop} {c:Act} (U:Ok ⟨z,[],none⟩ E c) (h:ResR P E m rs vs) (O:fn.results=rs.toArray) (D:Sym w0 M I0 I m w)
 (J:∀ w',Sym w0 M I0 I m w'->R (.returned (tup vs)) w'):LeavesInM Fence.wide 0 P fn c.tmps R c.defers .returning w:=Ap6 .z U h O D.marks0 J
theorem Sym.dropAll (h:Sym w0 M I0 I m w):Sym w0 M I0 I [] w:=by have⟨D,hi,J,k,_,hk,O,U⟩:=h;exact⟨D,hi,J,k,trivial,hk,O,U⟩
theorem B6 {z:Nat} {vs:List Value} (U:fn.results=rs.toArray) (h:ResR P E m rs vs) (J:I0.le I) (W:ψ I (tup vs)) :
 ∀ c w,Ok ⟨z,[],none⟩ E c->Sym w0 M I0 I m w->IJ P fn (SX w0 M I0 λO v l=>l=[]∧ψ O v) .ret c w:=λ_ _ V D=>Ap7 V h U D λ_ D=>⟨_,I,[],rfl,J,⟨rfl,W⟩,D.dropAll⟩
theorem XW {z:Nat} {O:List HA} (Z:Del O (NB ds) m) {vs:List Value} (W:fn.results=rs.toArray) (h:ResR P E m rs vs) (J:I0.le I) (hψ:ψ I (tup vs)) :
 ∀ c w,Ok ⟨z,ds,none⟩ E c->Sym w0 M I0 I O w->IJ P fn (SX w0 M I0 λU v l=>l=[]∧ψ U v) .ret c w:=λ_ _ V D=>Ap6 Z V h W D λ_ D=>⟨_,I,[],rfl,J,⟨rfl,hψ⟩,D.dropAll⟩
def BA (xs:List α) (i:Int) (K:α->Prop):Prop:=0<=i∧∃ x,xs[i.toNat]? = some x∧K x
def DN (B:Nat) (xs ys:List α) (K:List α->Prop):Prop:=(xs.length+ys.length)*B<=140737488355328∧K (xs++ys)
end
section
variable {w0 w:World} {M:Nat→Prop} {I0 I:IH} {m m':List HA}
variable {P:Program} {n:FrK} {E:DH} {S:World→Prop} {Q:Exit→Act→World→Prop} {ops:Array Oper} {l:List Oper}
variable {d ty:Nat} {pos:String} {af:Array Edge} {T e:TypeId} {x y:Operand}
variable {α:Type} {El:EE α} {xs ys:List α} {a:Option Addr} {cap:Nat}
/-! ### Pure parts -/
variable {φ:IH→Value→List HA→Prop} {parts:List (Nat×Operand)} {len:Nat} {rs:List ResultVar} {fn:Func}
def slP (xs:List α) (lo hi:Int) (K:List α->Prop):Prop:=0<=lo∧lo<=hi∧hi<=(xs.length:Int)∧K ((xs.take hi.toNat).drop lo.toNat)
def nzP (b:Int) (K:Prop):Prop:=b≠0∧K
def nnP (b:Int) (K:Prop):Prop:=0<=b∧K
def mkP (B:Nat) (c:Int) (z:α) (K:List α->Prop):Prop:=0<=c∧c*B<=140737488355328∧K (List.replicate c.toNat z)
def ES {σ:Type} (m:(σ->Prop)->Prop) (k:σ->Prop):Prop:=m k
theorem CL {i:Int} {v:α} (h:xs[i.toNat]? = some v) (D:0<=i):i<(xs.length:Int):=by grind
theorem FY {i:Nat} {v:α} (h:xs[i]? = some v):xs≠[]:=λe=>by subst e; simp at h
theorem split {G:Prop} (b:Bool) (D:b=true->G) (h:b=false->G):G:=by cases b <;> simp_all
theorem Cod.joinQ {σ:Type} {c:Code} {D:(σ->Prop)->Prop} {k:σ->Prop} (W:ES D k) (J:σ->Act->World->Prop) (V:∀ k,D k->Cod P c n E S (Exit.then (λa w=>∃ s,k s∧J s a w) Q))
  (O:∀ s,k s->∀ a w,J s a w->Q .normal a w):Cod P c n E S Q:=
 λa w Z U=>Code.wpIn_mono (λe a w q=>by cases e <;> first | exact q | exact(let ⟨s,hk,h⟩:=q; O s hk a w h)) (V k W a w Z U)
inductive Pick:List HA→List HA→Prop
 | n {l:List HA}:Pick l []
 | c {l m r:List HA} {A:HA} (h:Del l A m) (k:Pick m r):Pick l (A :: r)
theorem Am3 {l r:List HA} (hp:Pick l r):∀ {h:IH},OQ l I h->OQ r I h:=by
 induction hp with
 | n=>intros; trivial
 | c W _ ih=>
  intro h hs;have⟨V,Z,U,D,O,ha,J⟩:=lQ W hs;exact⟨V,Z,U,D,O,ha,ih J⟩
theorem Sym.pick (h:Sym w0 M I0 I m w) (hp:Pick m m'):Sym w0 M I0 I m' w:=by have⟨D,hi,O,k,J,hk,U,V⟩:=h;exact⟨D,hi,O,k,Am3 hp J,hk,U,V⟩
theorem Cod.ownF {c:Code} (O:Del m (OwnSl El T a cap xs) m') (k:(xs≠[]->∃ b,a=some ⟨b,0,none⟩)->Cod P c n E (Sym w0 M I0 I m) Q):Cod P c n E (Sym w0 M I0 I m) Q:=by
 intro c w U h;refine k (λ_=>?_) c w U h;have⟨_,J,_⟩:=(h.del O).get;rcases J with⟨_,V,_⟩ | ⟨b,_,D,_⟩
 all_goals grind
theorem Ops.ownNe (U:Del m (OwnSl El T a cap xs) m') (h:xs≠[]) (k:∀ b,a=some ⟨b,0,none⟩->Ops P ops l n E (Sym w0 M I0 I m) Q):Ops P ops l n E (Sym w0 M I0 I m) Q:=by
 intro c w W D;have⟨_,O,_⟩:=(D.del U).get;rcases O with⟨_,V,_⟩ | ⟨b,_,J,_⟩
 . exact absurd V h
 . exact k b J c w W D
inductive pN (E:DH) (s:Nat):Nat→List (Nat×Operand)→List Value→Prop
 | n {i:Nat}:pN E s i [] []
 | c {i:Nat} {x:Operand} {v:Value} {vs cs:List Value} {r:List (Nat×Operand)} (hx:ev E x=some v) (hv:cellsOf v=vs) (hl:vs.length=s) (k:pN E s (i+1) r cs):pN E s i ((i,x) :: r) (vs++cs)
theorem AhT {s:Nat} {ev':Operand->Value} (O:∀ x v,ev E x=some v->ev' x=v) {i:Nat} {cs:List Value} (h:pN E s i parts cs) :
  ∀ z:Array Value,z.size=i*s+parts.length*s->Instr.fill (λi=>some (i*s,s)) z (parts.map λp=>(p.1,ev' p.2))=some (z.toList.take (i*s)++cs).toArray:=by
 induction h with
 | n=>intro z D; simp at D; simp only[AjX,Instr.fill,lP]; rw[AoL (by simp; omega)]
 | @c i x v vs cs r W J hl k Z=>
  intro z D;simp only[uP,XT,AbV] at D;have U:(ev' x).cells=vs.toArray:=by rw[O x v W,U3,J]
  simp only[OU,Instr.fill,U];rw[if_neg (by simp; omega)]
  have V:vs.toArray.zipIdx.foldl (λcs (p:Value×Nat)=>cs.setIfInBounds (i*s+p.2) p.1) z=(z.toList.take (i*s)++vs++z.toList.drop (i*s+vs.length)).toArray:=by rw[<-AjH,AoP,lS vs (i*s) 0 z (by omega)];simp
  rw[V,Z _ (by simp[XT]; omega)];congr 2;have e3:(i+1)*s=(z.toList.take (i*s)++vs).length:=by grind
  grind
theorem Ops.buildSlice {s:Nat} {z:Value} {cs:List Value} (k:Nat) (hT:P.underlying T=some (.slice e)) (hs:∀ w,(sizeOf e).run P w=.ok s w) (V:∀ w,(zeroValue e).run P w=.ok z w)
  (hk:k=parts.length) (J:Nat.ble (k*s) 16777216=true) (hp:pN E s 0 parts cs) (hb:Nat.blt d n.sz=true) (hf:fresh E d=true)
  (Z:∀ b,Ops P ops l n ((d,.slice (some ⟨b,0,none⟩) k k) :: E) (Sym w0 M I0 I (pto b (.cells cs.toArray e) :: m)) Q) :
  Ops P ops (⟨some d,.buildSlice T k parts.toArray,ty,pos,af,none⟩ :: l) n E (Sym w0 M I0 I m) Q:=
 Ops.valx (λv w'=>∃ b,v=.slice (some ⟨b,0,none⟩) k k∧Sym w0 M I0 I (pto b (.cells cs.toArray e) :: m) w') rfl rfl
  (λc w O D=>⟨.slice (some ⟨w.heap.size,0,none⟩) k k,w.alloc (.cells cs.toArray e),by
   have hl:¬k*s > 16777216:=by have:=Nat.le_of_ble_eq_true J; omega
   have h:=λU:Array Value=>AhT (ev':=c.eval) (λx v hx=>O.eval hx) hp ((Array.range (k*s)).map (U[· % U.size]!)) (by simp[hk]);have e1:(Array.map (λ(x:Nat×Operand)=>(x.1,c.eval x.2)) parts.toArray).toList=parts.map λp=>(p.1,c.eval p.2):=by simp
   have e2:(Array.map (λx=>match x with | (i,x)=>(i,c.eval x)) parts.toArray).toList=parts.map λp=>(p.1,c.eval p.2):=e1;simp only[execOp,Instr.buildSlice,Sem.run_bind,run_underlying hT,Result.andThen_ok,hs,hl,if_false,e2];simp only[h];by_cases hks:k*s=0 <;> simp[hks,newRow,V],_,rfl,D.alloc _⟩) hb hf
  (λv c w O ⟨b,W,D⟩=>by subst W; exact Z b c w O D)
theorem Ops.pubB {b k:Nat} {cs:List Value} (hA:Del m (Fw.pto b (.cells cs.toArray e (0,0))) m') (V:RepCs El I cs ys) (hk:k=ys.length) (W:∀ h,I.le h->RepSl El h (some ⟨b,0,none⟩) k ys->Ops P ops l n E (Sym w0 M I0 h m') Q) :
  Ops P ops l n E (Sym w0 M I0 I m) Q:=by
 intro c w ho hs;have⟨h,_,D,ha,Z,J⟩:=(hs.del hA).publish;refine W h D ⟨by omega,λi x hx=>?_⟩ c w ho J;have⟨O,U,g2⟩:=V.2.1 i x hx;exact⟨b,0,O,rfl,⟨_,_,_,Z _ _ ha,λj v hj=>by rw[jH]; simpa using g2 j v hj⟩,El.mono D U⟩
theorem Ops.ownB {b k:Nat} {cs:List Value} (V:Del m (Fw.pto b (.cells cs.toArray e (0,0))) m') (D:RepCs El I cs ys) (hk:k=ys.length) (O:Ops P ops l n E (Sym w0 M I0 I (OwnSl El e (some ⟨b,0,none⟩) k ys :: m')) Q) :
  Ops P ops l n E (Sym w0 M I0 I m) Q:=
 Ops.pre (λ_ Z=>(Z.del V).weaken (B:=OwnSl El e (some ⟨b,0,none⟩) k ys) λ_ U=>.inr ⟨b,_,rfl,U,by omega,by simp[D.1,hk],λi x hx=>by have⟨h,J,g2⟩:=D.2.1 i x hx;exact⟨h,J,λj v W=>by simpa using g2 j v W⟩⟩) O
theorem Ops.sliceV {lo hi mx:Option Operand} {vl Z O:Option Value} {L H k s:Nat} (hT:P.underlying T=some (.slice e)) (hs:∀ w,(sizeOf e).run P w=.ok s w) (hx:ev E x=some (.slice a k cap)) (hk:k=xs.length)
  (hc:xs.length<=cap) (hl:oev E lo=some vl) (hh:oev E hi=some Z) (hm:oev E mx=some O) (a2:vl=none∧L=0∨∃ q i,vl=some (.int q i)∧0<=i∧i.toNat=L)
  (a4:Z=none∧H=k∧O=none∨∃ q i,Z=some (.int q i)∧0<=i∧i.toNat=H) (a7:O=none∨O=Z)
  (h1:L<=H) (h2:H<=xs.length) {cm:Nat} (h:cm=match O with | none=>cap | some _=>H) (hb:Nat.blt d n.sz=true) (hf:fresh E d=true)
  (k':Ops P ops l n ((d,.slice (if cm=L then a else a.map (·.add (L*s))) ((xs.take H).drop L).length (cm - L)) :: E) S Q) :
  Ops P ops (⟨some d,.slice T x lo hi mx,ty,pos,af,none⟩ :: l) n E S Q:=by
 subst hk;have a5:((xs.take H).drop L).length=H - L:=by simp; omega
 rw[a5] at k';refine Ops.val rfl rfl (λ_ w ho _=>?_) hb hf k'
 have a6:(Instr.sliceBounds true xs.length cap vl Z O).run P w=.ok (L,H,cm) w:=by
  simp only[Instr.sliceBounds];rcases a7 with rfl | rfl
  . simp only at h; subst h;rcases a4 with⟨rfl,rfl,_⟩ | ⟨q,i,rfl,D,W⟩ <;> rcases a2 with⟨rfl,rfl⟩ | ⟨q',U,rfl,J,V⟩
    . simp
    . have:U<=(xs.length:Int):=by omega
      simp[Instr.sliceBound,asIntOf,J,this,V]
    . have:i<=(cm:Int):=by omega
      simp[Instr.sliceBound,asIntOf,D,this,W]
    . have g1:i<=(cm:Int):=by omega
      have g2:U<=(H:Int):=by omega
      simp[Instr.sliceBound,asIntOf,D,g1,J,g2,W,V]
  . rcases a4 with⟨rfl,rfl,_⟩ | ⟨q,i,rfl,D,W⟩
    . simp only at h; subst h;rcases a2 with⟨rfl,rfl⟩ | ⟨q',U,rfl,J,V⟩
      . simp
      . have:U<=(xs.length:Int):=by omega
        simp[Instr.sliceBound,asIntOf,J,this,V]
    . simp only at h; subst h;have g0:i<=(cap:Int):=by omega
      rcases a2 with⟨rfl,rfl⟩ | ⟨q',U,rfl,J,V⟩
      . have:i<=(cm:Int):=by omega
        simp[Instr.sliceBound,asIntOf,D,g0,this,W]
      . have g1:i<=(cm:Int):=by omega
        have g2:U<=(cm:Int):=by omega
        simp[Instr.sliceBound,asIntOf,D,g0,g1,J,g2,W,V]
 simp only[execOp,ho.eval hx,OW ho hl,OW ho hh,OW ho hm,Instr.sliceAt,Sem.run_bind,run_underlying hT,Result.andThen_ok,Instr.slice,a6,hs,Sem.run_pure]
theorem RepSl.sliceM (h:RepSl El I a cap xs) {L H cm:Nat} (D:L<=H) (J:H<=xs.length) (O:cm=cap∨cm=H) :
  RepSl El I (if cm=L then a else a.map (·.add (L*El.sz))) (cm - L) ((xs.take H).drop L):=by
 have W:=h.1;refine⟨by simp; omega,λi x U=>?_⟩;have V:=(h.slice D J).2 i x U;grind
theorem Ops.ixa0 {k s b:Nat} {q:IntKind} {i:Int} (h:P.underlying T=some (.slice e)) (J:∀ w,(sizeOf e).run P w=.ok s w) (V:ev E x=some (.slice (some ⟨b,0,none⟩) k cap))
 (D:ev E y=some (.int q i)) (W:0<=i) (hk:i<k) (O:Nat.blt d n.sz=true) (Z:fresh E d=true) (U:Ops P ops l n ((d,.pointer (some ⟨b,i.toNat*s,none⟩)) :: E) S Q) :
 Ops P ops (⟨some d,.indexAddr T x y,ty,pos,af,none⟩ :: l) n E S Q:=Ops.ixa (off:=0) h J V rfl D W hk O Z (by rw[jH]; exact U)
theorem Ops.ixArr {s b off o:Nat} {q:IntKind} {i:Nat} (V:P.underlying T=some (.array len e)) (Z:∀ w,(sizeOf e).run P w=.ok s w) (hx:ev E x=some (.pointer (some ⟨b,off,none⟩)))
  (W:ev E y=some (.int q (i:Int))) (hk:i<len) (ho:off+i*s=o) (hb:Nat.blt d n.sz=true) (O:fresh E d=true) (D:Ops P ops l n ((d,.pointer (some ⟨b,o,none⟩)) :: E) S Q) :
  Ops P ops (⟨some d,.indexAddr T x y,ty,pos,af,none⟩ :: l) n E S Q:=
 Ops.val rfl rfl (λ_ w h _=>by
  have U:(⟨b,off,none⟩:Addr).add (i*s)=⟨b,o,none⟩:=by rw[<-ho]; unfold Addr.add; split <;> simp_all
  have J:(0:Int)<=(i:Int):=by omega
  simp[execOp,Instr.indexAt,Instr.sureAddr,h.eval hx,h.eval W,asIntOf,run_underlying V,J,hk,Z,U]) hb O D
theorem Ops.index1 {s:Nat} {q:IntKind} {i:Nat} {cs:List Value} {v:Value} (V:P.underlying T=some (.array len e)) (hs:∀ w,(sizeOf e).run P w=.ok s w) (W:∀ w,(isAgg e).run P w=.ok false w) (hx:ev E x=some (.agg cs.toArray))
  (Z:ev E y=some (.int q (i:Int))) (hk:i<len) (J:cs[i*s]? = some v) (hb:Nat.blt d n.sz=true) (U:fresh E d=true) (D:Ops P ops l n ((d,v) :: E) S Q) :
  Ops P ops (⟨some d,.index T x y,ty,pos,af,none⟩ :: l) n E S Q:=
 Ops.val rfl rfl (λ_ w h _=>by
  have O:(0:Int)<=(i:Int):=by omega
  simp[execOp,Instr.index,h.eval hx,h.eval Z,asIntOf,run_underlying V,O,hk,hs,part,W,J]) hb U D
theorem Ops.make {z:Value} {zv:α} {i:TypeInfo} {q q':IntKind} {c:Int} (B:Nat) (hT:P.underlying T=some (.slice e)) (hi:P.info? e=some i) (a4:i.size=El.sz) (hB:i.bytes=B) (hz:i.zero=some z) (V:El.rep I (cellsOf z) zv)
   (hx:ev E x=some (.int q c)) (hy:ev E y=some (.int q' c)) (h0:0<=c) (h1:c*B<=140737488355328) (b1:Nat.blt 0 B=true) (hb:Nat.blt d n.sz=true) (hf:fresh E d=true)
   (k:∀ b,Ops P ops l n ((d,.slice (some ⟨b,0,none⟩) (List.replicate c.toNat zv).length c.toNat) :: E) (Sym w0 M I0 I (OwnSl El e (some ⟨b,0,none⟩) c.toNat (List.replicate c.toNat zv) :: m)) Q) :
   Ops P ops (⟨some d,.makeSlice T x y,ty,pos,af,none⟩ :: l) n E (Sym w0 M I0 I m) Q:=by
 have c0:0<B:=by simp_all
 have hc:c<=140737488355328:=by have:c*1<=c*(B:Int):=Av6 (by omega) h0;omega
 have hw:IntKind.i64.wrap c=c:=by
   have e1:IntKind.i64.wrap c=(let m:=c % 18446744073709551616; if m>=9223372036854775808 then m - 18446744073709551616 else m):=by simp[IntKind.wrap,IntKind.bits,IntKind.signed]
   grind
 have U:z.cells.size=El.sz:=by rw[U3]; simpa using El.len V
 refine Ops.valx (λv w'=>∃ b,v=.slice (some ⟨b,0,none⟩) (List.replicate c.toNat zv).length c.toNat∧Sym w0 M I0 I (OwnSl El e (some ⟨b,0,none⟩) c.toNat (List.replicate c.toNat zv) :: m) w') rfl rfl
   (λZ w W h=>⟨.slice (some ⟨w.heap.size,0,none⟩) (List.replicate c.toNat zv).length c.toNat,w.alloc (.cells ((Array.range (c.toNat*El.sz)).map ((if c.toNat*El.sz=0 then #[] else z.cells)[· % (if c.toNat*El.sz=0 then #[] else z.cells).size]!)) e),?_,_,rfl,?_⟩) hb hf
   (λv Z w W ⟨b,hv,h⟩=>by subst hv; exact k b Z w W h)
 . have a7:∀ w,(sizeOf e).run P w=.ok El.sz w:=λw=>by simp[sizeOf,typeInfo,hi,a4]
   have D:∀ w,(typeInfo e).run P w=.ok i w:=λw=>by simp[typeInfo,hi]
   have b0:∀ w,(zeroValue e).run P w=.ok z w:=λw=>by simp[zeroValue,D,hz]
   have h2:(B:Int)*c<=140737488355328:=by grind
   have g2:¬((c<0∨281474976710656<(B:Int)*c)∨c<0):=by omega
   simp only[execOp,Instr.makeSlice,W.eval hx,W.eval hy,Sem.run_bind,run_underlying hT,Result.andThen_ok,asInt,asIntOf,Sem.run_pure,D,hB,hw];by_cases hcz:c.toNat*El.sz=0 <;> simp[newRow,g2,a7,b0,hcz]
 . refine(h.alloc _).weaken λq hq=>.inr ⟨_,_,rfl,hq,by simp,by simp,λi' x' a8=>?_⟩;have J:=(List.getElem?_eq_some_iff.1 a8).1;have a9:x'=zv:=by grind
   subst a9;refine⟨_,V,λj v _=>?_⟩;have O:j<El.sz:=by rw[<-El.len V]; grind
   rw[At2] at J;have a5:(i'+1)*El.sz<=c.toNat*El.sz:=uM _ J;rw[XT,AbV] at a5;have a6:¬c.toNat*El.sz=0:=by omega
   simp only[a6,if_false,Array.getElem?_map,Array.getElem?_range];rw[if_pos (by omega)];have a2:(i'*El.sz+j) % El.sz=j:=by rw[Aa7,Nat.add_mul_mod_self_right]; exact AjM O
   simp only[AhI,U,a2,AeA];have c1:j<z.cells.size:=by rw[U]; exact O
   have e4:z.cells=(cellsOf z).toArray:=U3 z;grind
theorem Ops.sliceW {lo hi mx:Option Operand} {V D h:Option Value} {L H k s:Nat} {W:Option Addr} {Z:Nat} (hT:P.underlying T=some (.slice e)) (hs:∀ w,(sizeOf e).run P w=.ok s w) (hx:ev E x=some (.slice a k cap)) (hk:k=xs.length)
  (hc:xs.length<=cap) (hl:oev E lo=some V) (hh:oev E hi=some D) (hm:oev E mx=some h) (a2:V=none∧L=0∨∃ q i,V=some (.int q i)∧0<=i∧i.toNat=L)
  (a5:D=none∧H=k∧h=none∨∃ q i,D=some (.int q i)∧0<=i∧i.toNat=H) (J:h=none∨h=D)
  (h1:L<=H) (h2:H<=xs.length) {cm:Nat} (a4:cm=match h with | none=>cap | some _=>H) (O:(if cm=L then a else a.map (·.add (L*s)))=W) (U:cm - L=Z) (hb:Nat.blt d n.sz=true) (hf:fresh E d=true)
  (k':Ops P ops l n ((d,.slice W ((xs.take H).drop L).length Z) :: E) S Q) :
  Ops P ops (⟨some d,.slice T x lo hi mx,ty,pos,af,none⟩ :: l) n E S Q:=
 Ops.sliceV hT hs hx hk hc hl hh hm a2 a5 J h1 h2 a4 hb hf (by rw[O,U]; exact k')
theorem RepSl.sliceW (h:RepSl El I a cap xs) (L H cm:Nat) (U:L<=H) (V:H<=xs.length) (D:cm=cap∨cm=H) :
 ∃ J O,(if cm=L then a else a.map (·.add (L*El.sz)))=J∧cm - L=O∧RepSl El I J O ((xs.take H).drop L):=⟨_,_,rfl,rfl,h.sliceM U V D⟩
theorem DF {z:Nat} {vs:List Value} (U:fn.results=rs.toArray) (h:ResR P E m rs vs) (J:I0.le I) (hp:Pick m m') (O:φ I (tup vs) m') :
 ∀ c w,Ok ⟨z,[],none⟩ E c->Sym w0 M I0 I m w->IJ P fn (SX w0 M I0 φ) .ret c w:=λ_ _ V D=>Ap7 V h U D λ_ D=>⟨_,I,m',rfl,J,O,D.pick hp⟩
theorem AvD {z:Nat} {U:List Nat} {O:List HA} (W:Del O (NB U) m) {vs:List Value} (hr:fn.results=rs.toArray) (h:ResR P E m rs vs) (J:I0.le I) (hp:Pick m m') (Z:φ I (tup vs) m') :
 ∀ c w,Ok ⟨z,U,none⟩ E c->Sym w0 M I0 I O w->IJ P fn (SX w0 M I0 φ) .ret c w:=λ_ _ V D=>Ap6 W V h hr D λ_ D=>⟨_,I,m',rfl,J,Z,D.pick hp⟩
def yP (P:Program) (f:FuncId) (vs:List Value) (I:IH) (φ:IH->Value->List HA->Prop):Prop:=Fun P f vs.toArray I [] φ
theorem Ops.callO {g:FuncId} {args:List Operand} {vs:List Value} {J:Array TypeId} (W:∀ as w,(callFunc g as).run P w=.ok (.enter g as) w)
  (U:evs E args=some vs) (Z:yP P g vs I φ) (V:Nat.blt d n.sz=true) (D:fresh E d=true)
  (k:∀ v h O,I.le h->φ h v O->Ops P ops l n ((d,v) :: E) (Sym w0 M I0 h (O++m)) Q) :
  Ops P ops (⟨some d,.call ⟨.value (.func g),args.toArray,J⟩,ty,pos,af,none⟩ :: l) n E (Sym w0 M I0 I m) Q:=
 Ops.callF (mf:=[]) (mr:=m) W U Z V D k
theorem FR {z:Nat} {vs:List Value} (U:fn.results=rs.toArray) (h:ResR P E m rs vs) (J:I0.le I) (hp:Pick m m') (O:φ I (tup vs) m') :
 ∀ c w,Ok ⟨z,[],none⟩ E c->Sym w0 M I0 I m w->IJ P fn (SX w0 M I0 φ) .normal c w:=λ_ _ V D=>Ap7 V h U D λ_ D=>⟨_,I,m',rfl,J,O,D.pick hp⟩
theorem Ops.reat {A B:HA} (J:At m A m' B) (h:A=B) (k:Ops P ops l n E (Sym w0 M I0 I m') Q):Ops P ops l n E (Sym w0 M I0 I m) Q:=
 Ops.pre (λ_ D=>D.reAt J λ_ D=>h▸D) k
inductive pP (E:DH) (s:Nat):List Value→List (Nat×Operand)→List Value→Prop
 | n {z:List Value}:pP E s z [] z
 | c {z z' cs vs:List Value} {i:Nat} {x:Operand} {r:List (Nat×Operand)} {v:Value} (hx:ev E x=some v) (hv:cellsOf v=vs) (hl:vs.length=s) (hp:PutC z (i*s) vs z') (k:pP E s z' r cs):pP E s z ((i,x) :: r) cs
theorem Ap8 {s:Nat} {ev':Operand->Value}:∀ {z:List Value} {r:List (Nat×Operand)} {cs:List Value},pP E s z r cs->(∀ x v,ev E x=some v->ev' x=v) ->
  Instr.fill (λi=>some (i*s,s)) z.toArray (r.map λp=>(p.1,ev' p.2))=some cs.toArray:=by
 intro z r cs h
 induction h with
 | n=>intros; rfl
 | @c z U cs vs i x r v V O hl hp k ih=>
  intro J;have⟨D,_⟩:=hp.eq;have W:(ev' x).cells=vs.toArray:=by rw[J x v V,U3,O]
  simp only[OU,Instr.fill,W];rw[if_neg (by simp; omega)]
  have Z:vs.toArray.zipIdx.foldl (λcs (p:Value×Nat)=>cs.setIfInBounds (i*s+p.2) p.1) z.toArray=U.toArray:=by rw[<-AjH,AoP];rw[lS vs (i*s) 0 z.toArray (by simp; omega)];simp[D]
  rw[Z];exact ih J
theorem Ops.buildArr {s:Nat} {z:List Value} {cs:List Value} (D:∀ w,(zeroValue T).run P w=.ok (.agg z.toArray) w) (V:P.underlying T=some (.array len e))
  (W:∀ w,(sizeOf e).run P w=.ok s w) (O:pP E s z parts cs) (Z:Nat.blt d n.sz=true) (J:fresh E d=true) (k:Ops P ops l n ((d,.agg cs.toArray) :: E) S Q) :
  Ops P ops (⟨some d,.build T parts.toArray,ty,pos,af,none⟩ :: l) n E S Q:=
 Ops.val rfl rfl (λa w U _=>by
  have h:=Ap8 (ev':=a.eval) O (λx _ hx=>U.eval hx);simp only[execOp,Instr.build,Sem.run_bind,D,Result.andThen_ok,run_underlying V,Value.cells,W];have e:(Array.map (λ(x:Nat×Operand)=>(x.1,a.eval x.2)) parts.toArray).toList=parts.map λp=>(p.1,a.eval p.2):=by simp
  rw[show(Array.map (λx=>match x with | (i,x)=>(i,a.eval x)) parts.toArray).toList=parts.map λp=>(p.1,a.eval p.2) from e,h];simp) Z J k
end
section
variable {w0 w:World} {M:Nat→Prop} {I0 I:IH} {m m':List HA}
variable {P:Program} {n:FrK} {E:DH} {S:World→Prop} {Q:Exit→Act→World→Prop} {ops:Array Oper} {l:List Oper}
variable {d ty:Nat} {pos:String} {af:Array Edge} {T e:TypeId} {x y:Operand}
variable {name:String} {us:List Value}
inductive Outs:List HA→List HA→List HA→Prop
 | n {m:List HA}:Outs m [] m
 | c {m m' r mr:List HA} {A:HA} (h:Del m A m') (k:Outs m' r mr):Outs m (A :: r) mr
theorem Outs.perm {mf mr:List HA} (h:Outs m mf mr):m.Perm (mf++mr):=by
 induction h with
 | n=>exact .refl _
 | c h _ D=>exact h.perm.trans (D.cons _)
def Enters (P:Program) (n:FrK) (E:DH) (S:World->Prop) (x:Callee) (args:List Operand) (g:FuncId) (vs:List Value):Prop:=
 ∀ (D:Option Nat) (h:Array TypeId) (ty:TypeId) (pos:String) (af:Array Edge) (c:Act) (w:World),Ok n E c->S w->(execOp c.eval ⟨D,.call ⟨x,args.toArray,h⟩,ty,pos,af,none⟩).run P w=.ok (.enter g vs.toArray) w
theorem Enters.f {g:FuncId} {args:List Operand} {vs:List Value} (J:∀ as w,(callFunc g as).run P w=.ok (.enter g as) w) (h:evs E args=some vs):Enters P n E S (.value (.func g)) args g vs:=by
 intro U D ty pos af c w O _;have e:args.toArray.map c.eval=vs.toArray:=by simp[VX O h]
 simp only[execOp,resolve,e,Act.eval,Deferred.ofValue,Sem.run_bind,Sem.run_pure,Result.andThen_ok,invoke];simp[J]
theorem Enters.c {g:FuncId} {args:List Operand} {first cap:Array Value} (O:∀ as w,(callFunc g as).run P w=.ok (.enter g as) w) (U:ev E x=some (.func (.func g) first cap)) (D:evs E args=some us) :
  Enters P n E S (.value x) args g (first.toList++us++cap.toList):=by
 intro V J ty pos af c w h _;have e:args.toArray.map c.eval=us.toArray:=by simp[VX h D]
 simp only[execOp,resolve,e,h.eval U,Deferred.ofValue,Sem.run_bind,Sem.run_pure,Result.andThen_ok,invoke,O];simp
theorem Ops.callS {x:Callee} {g:FuncId} {args:List Operand} {vs:List Value} {Z:Array TypeId} {mf mr:List HA} {φ:IH->Value->List HA->Prop} (he:Enters P n E (Sym w0 M I0 I m) x args g vs)
  (ho:Outs m mf mr) (hf:Fun P g vs.toArray I mf φ) (hb:Nat.blt d n.sz=true) (V:fresh E d=true)
  (k:∀ v D O,I.le D->φ D v O->Ops P ops l n ((d,v) :: E) (Sym w0 M I0 D (O++mr)) Q) :
  Ops P ops (⟨some d,.call ⟨x,args.toArray,Z⟩,ty,pos,af,none⟩ :: l) n E (Sym w0 M I0 I m) Q:=by
 intro c w J h;refine wpListIn_plain rfl λ_ hK=>?_;refine lR (he _ _ _ _ _ c w J h) (by simp) ?_;simp only[Oper.uponIn];refine⟨λa2=>(by cases a2),pM (hf.use (h.perm ho.perm) λv D O _ U hφ W=>hK _ _ (k v D O U hφ _ _ (J.put hb V v) W))⟩
theorem Ops.mkFn {D:Fn} {first cap:List Operand} {vs:List Value} (J:evs E first=some vs) (U:evs E cap=some us) (O:Nat.blt d n.sz=true) (V:fresh E d=true)
  (k:Ops P ops l n ((d,.func D vs.toArray us.toArray) :: E) S Q):Ops P ops (⟨some d,.makeFunc D first.toArray cap.toArray,ty,pos,af,none⟩ :: l) n E S Q:=
 Ops.makeFunc (λa h=>by simp[VX h J]) (λa h=>by simp[VX h U]) O V k
def VY (J:IH):List HA->Prop
 | []=>True
 | A :: r=>(∃ k:IH,A.holds J k∧k.le J)∧VY J r
theorem uY {J h:IH} (O:h.le J) (D:I.le J):∀ {mf mr:List HA} {k:IH},OQ (mf++mr) I k->k.le h->VY J mf
 | [],_,_,_,_=>trivial
 | A :: _,mr,_,⟨h1,_,_,hl1,hl2,ha,hs⟩,hk=>⟨⟨h1,A.mono D (IH.le.refl _) ha,(hl1.trans hk).trans O⟩,uY O D (mr:=mr) hs (hl2.trans hk)⟩
theorem Ap9 {α:Type} {El:EE α} {T:TypeId} {a:Option Addr} {cap:Nat} {xs:List α} {J:IH} (h:∃ k:IH,(OwnSl El T a cap xs).holds J k∧k.le J):RepSl El J a cap xs:=by
 have⟨k,Z,hk⟩:=h;rcases Z with⟨O,D,U⟩ | ⟨b,c,O,D,U,h4,W⟩
 . subst D; exact .nil _ _ _
 . refine⟨U,λi x hx=>?_⟩;have⟨cs,V,g2⟩:=W i x hx;exact⟨b,0,cs,O,⟨c,T,(0,0),hk _ _ D,λj v hj=>by rw[jH]; exact g2 j v hj⟩,V⟩
theorem Sym.grown (h:Sym w0 M I0 I m w) {w':World} (O:At6 w (λ_=>False) w'):Sym w0 M I0 I m w':=by
 have⟨D,hi,hn,k,hs,hk,Z,hm⟩:=h
 have U:∀ {J:IH},J.le (hp w)->J.le (hp w'):=λhJ b o e=>by have W:=hJ b o e;have:=O.block b (U2 W) (λx=>x);show w'.heap[b]? = some o;rw[this]; exact W
 exact⟨⟨O.os.trans D.os,O.tape.trans D.tape,O.output.trans D.output,gN D.drawn O.drawn,gN D.size O.size,λb V h2=>(O.block b (AjJ V D.size) (λx=>x)).trans (D.block b V h2)⟩,U hi,hn,k,hs,U hk,Z,hm⟩
theorem ApA {g:FuncId} {vs:List Value} {mf mr:List HA} {ψ:IH->Value->Prop} (hf:∀ J:IH,I.le J->VY J mf->B7 P g vs J ψ) (ho:Outs m mf mr) (O:Sym w0 M I0 I m w)
  {R:Ending->World->Prop} (W:∀ v J w',ψ J v->Sym w0 M I0 I m w'->R (.returned v) w'):Calls P g vs.toArray w R:=by
 have⟨_,hi,_,k,h,hk,Z,_⟩:=O.perm ho.perm;have D:=IH.le_union_left I k;have hJ:(I.union k).le (hp w):=IH.union_le hi hk;refine(hf (I.union k) D (uY (IH.le_union_right Z) D h (IH.le.refl _)) w (λ_=>none) hJ trivial (λ_ _ x=>nomatch x) (λ_=>.inr rfl)).mono λ_ w' ha=>?_;obtain⟨v,U,_,rfl,_,⟨_,hψ⟩,hs'⟩:=ha;exact W v U w' hψ (O.grown ⟨hs'.base.os,hs'.base.tape,hs'.base.output,hs'.base.drawn,hs'.base.size,λb V _=>hs'.base.block b V (by simp)⟩)
theorem Ops.callB {x:Callee} {g:FuncId} {args:List Operand} {vs:List Value} {V:Array TypeId} {mf mr:List HA} {ψ:IH->Value->Prop} (Z:Enters P n E (Sym w0 M I0 I m) x args g vs)
  (ho:Outs m mf mr) (hf:∀ J:IH,I.le J->VY J mf->B7 P g vs J ψ) (hb:Nat.blt d n.sz=true) (O:fresh E d=true)
  (k:∀ v J,ψ J v->Ops P ops l n ((d,v) :: E) (Sym w0 M I0 I m) Q) :
  Ops P ops (⟨some d,.call ⟨x,args.toArray,V⟩,ty,pos,af,none⟩ :: l) n E (Sym w0 M I0 I m) Q:=by
 intro c w D W;refine wpListIn_plain rfl λ_ hK=>?_;refine lR (Z _ _ _ _ _ c w D W) (by simp) ?_;simp only[Oper.uponIn];refine⟨λh=>(by cases h),pM (ApA hf ho W λv J _ hψ U=>hK _ _ (k v J hψ _ _ (D.put hb O v) U))⟩
def lX:TypeDesc->Bool
 | .interface _=>false
 | _=>true
theorem Ops.mkIface {u:TypeDesc} {v:Value} (h:P.underlying T=some u) (V:lX u=true) (J:ev E x=some v) (D:Nat.blt d n.sz=true) (O:fresh E d=true)
  (k:Ops P ops l n ((d,.iface T v) :: E) S Q):Ops P ops (⟨some d,.makeInterface T x,ty,pos,af,none⟩ :: l) n E S Q:=
 Ops.val rfl rfl (λ_ _ U _=>by simp only[execOp,U.eval J,Instr.makeInterface,Sem.run_bind,run_underlying h,Result.andThen_ok];cases u <;> simp_all[lX]) D O k
theorem Ops.assertOk {u:TypeDesc} {v:Value} {O:TypeId} (h:P.underlying T=some u) (W:lX u=true) (J:ev E x=some (.iface T v)) (D:Nat.blt d n.sz=true) (U:fresh E d=true)
  (k:Ops P ops l n ((d,.tuple #[v,.bool true]) :: E) S Q):Ops P ops (⟨some d,.typeAssert x O T true,ty,pos,af,none⟩ :: l) n E S Q:=
 Ops.val rfl rfl (λ_ _ V _=>by simp only[execOp,V.eval J,Instr.typeAssert,Sem.run_bind,run_underlying h,Result.andThen_ok];cases u <;> simp_all[lX]) D U k
theorem Enters.i {g:FuncId} {args:List Operand} {h:Operand} {t:TypeId} {v r:Value} (V:∀ as w,(callFunc g as).run P w=.ok (.enter g as) w)
  (J:∀ w,(method (P.types.size+Made.depth) t v name).run P w=.ok (g,r) w) (W:ev E h=some (.iface t v)) (O:evs E args=some us) :
  Enters P n E S (.invoke h name) args g (r :: us):=by
 intro Z U ty pos af c w D _;have e:args.toArray.map c.eval=us.toArray:=by simp[VX D O]
 simp only[execOp,resolve,e,D.eval W,Sem.run_bind,Sem.run_pure,Result.andThen_ok,invoke];simp[callMethod,J,V]
theorem Enters.iv {g:FuncId} {args:List Operand} {h:Operand} {t:TypeId} {v r:Value} (W:∀ as w,(callFunc g as).run P w=.ok (.enter g as) w)
  (J:∀ w,S w->(method (P.types.size+Made.depth) t v name).run P w=.ok (g,r) w) (Z:ev E h=some (.iface t v)) (O:evs E args=some us) :
  Enters P n E S (.invoke h name) args g (r :: us):=by
 intro a2 U ty pos af c w D V;have e:args.toArray.map c.eval=us.toArray:=by simp[VX D O]
 simp only[execOp,resolve,e,D.eval Z,Sem.run_bind,Sem.run_pure,Result.andThen_ok,invoke];simp[callMethod,J w V,W]
theorem VZ {g t N:Nat} {v r:Value} {b off:Nat} {cs:List Value} {T':TypeId} {W:Nat×Nat} (O:∀ w,(method N t v name).run P w=((loadVar T ⟨b,off,none⟩).run P w).andThen λr w=>.ok (g,r) w)
  (U:∀ w,(isAgg T).run P w=.ok false w) (Z:Del m (pto b (.cells cs.toArray T' W)) m') (D:cs[off]? = some r):∀ w,Sym w0 M I0 I m w->(method N t v name).run P w=.ok (g,r) w:=by
 intro w V;rw[O w];have h:w.cell? ⟨b,off,none⟩=some r:=by rw[NN (V.del Z).pto]; simpa using D
 have J:(loadVar T ⟨b,off,none⟩).run P w=.ok r w:=by have:=RW (P:=P) (T:=T) U h;simpa[Instr.loadAt,Instr.sureAddr] using this
 rw[J]; rfl
theorem AeP {a:Array TypeId} {t:TypeId} {p:Addr} {s n:ByteArray} (w:World):(Builtin.ssaWrapNilChk_ a t #[.pointer (some p),.string s,.string n]).run P w=.ok (.pointer (some p)) w:=by rfl
theorem LR {t g e N b o:Nat} {i:TypeInfo} {m:Method} (O:Nat.blt 0 N=true) (hi:P.info? t=some i) (J:i.methods.find? (·.name==name)=some m) (hp:m.path = #[]) (h:m.func=some (g,false)) (D:P.underlying t=some (.pointer e)) (w:World) :
  (method N t (.pointer (some ⟨b,o,none⟩)) name).run P w=((loadVar e ⟨b,o,none⟩).run P w).andThen λr w=>.ok (g,r) w:=by
 cases N with
 | zero=>cases O
 | succ N=>simp[method,typeInfo,hi,J,hp,h,follow,receiverAt,run_underlying D,Place.get,strVal,AeP,asAddr]
theorem uZ {t g e N b o:Nat} {i:TypeInfo} {m:Method} (O:Nat.blt 0 N=true) (hi:P.info? t=some i) (J:i.methods.find? (·.name==name)=some m) (hp:m.path = #[]) (h:m.func=some (g,true)) (D:P.underlying t=some (.pointer e)) (w:World) :
  (method N t (.pointer (some ⟨b,o,none⟩)) name).run P w=.ok (g,.pointer (some ⟨b,o,none⟩)) w:=by
 cases N with
 | zero=>cases O
 | succ N=>simp[method,typeInfo,hi,J,hp,h,follow,receiverAt,run_underlying D,Place.get]
end
section
variable {w0 w:World} {M:Nat→Prop} {I0 I:IH} {m m':List HA}
variable {P:Program} {n:FrK} {E:DH} {Q:Exit→Act→World→Prop} {ops:Array Oper} {l:List Oper}
variable {d ty:Nat} {pos:String} {af:Array Edge} {T e:TypeId} {x y z:Operand}
variable {cur:Option (Value×Value)}
section
variable {κ α:Type} [DecidableEq κ]
/-! ### Maps as lists of pairs -/
def BG (k:κ):List (κ×α)->Option α
 | []=>none
 | p :: r=>if k=p.1 then some p.2 else BG k r
def EJ (k:κ) (v:α):List (κ×α)->List (κ×α)
 | []=>[(k,v)]
 | p :: r=>if k=p.1 then (k,v) :: r else p :: EJ k v r
def FJ (k:κ):List (κ×α)->List (κ×α)
 | []=>[]
 | p :: r=>if k=p.1 then r else p :: FJ k r
def lkP (l:List (κ×α)) (k:κ) (z:α) (C:α->Prop):Prop:=C ((BG k l).getD z)
def yQ (l:List (κ×α)) (k:κ) (z:α) (C:α->Bool->Prop):Prop:=C ((BG k l).getD z) (BG k l).isSome
inductive ofC:Bool→List Value→Value→Prop
 | a {cs:List Value}:ofC true cs (.agg cs.toArray)
 | s {v:Value}:ofC false [v] v
variable {ke:κ→Value} {El:EE α} {ag:Bool}
def EntsR (ke:κ->Value) (El:EE α) (ag:Bool) (I:IH):List MapEntry->List (κ×α)->Prop
 | [],[]=>True
 | e :: es,p :: l=>e.key=ke p.1∧(∃ cs,El.rep I cs p.2∧ofC ag cs e.val)∧EntsR ke El ag I es l
 | _,_=>False
theorem EntsR.mono {J:IH} (D:I.le J):∀ {es:List MapEntry} {l:List (κ×α)},EntsR ke El ag I es l->EntsR ke El ag J es l
 | [],[],_=>trivial
 | _ :: _,_ :: _,⟨h1,⟨cs,h2,h3⟩,h4⟩=>⟨h1,⟨cs,El.mono D h2,h3⟩,h4.mono D⟩
 | [],_ :: _,h=>h.elim
 | _ :: _,[],h=>h.elim
def Stamped (l:List MapEntry) (clock:Nat):Prop:=(l.map (·.born)).Nodup∧∀ e∈l,e.born<clock
theorem Stamped.push {l:List MapEntry} {clock:Nat} {e:MapEntry} (h:Stamped l clock) (U:e.born=clock):Stamped (l++[e]) (clock+1):=by
 refine⟨?_,λx D=>?_⟩
 . rw[iE,List.nodup_append];refine⟨h.1,by simp,λ_ J _ O=>?_⟩;simp only[OU,AjX,lO] at O;obtain⟨x,D,rfl⟩:=List.mem_map.1 J;have:=h.2 x D;omega
 . rcases List.mem_append.1 D with D | D
   . have:=h.2 x D; omega
   all_goals grind
theorem aX {β γ:Type} {f:β->β} {g:β->γ} (h:∀ x,g (f x)=g x):∀ (l:List β) (i:Nat),(l.modify i f).map g=l.map g
 | [],0=>rfl
 | [],_+1=>rfl
 | x :: r,0=>by simp[List.modify_zero_cons,h]
 | x :: r,i+1=>by simp[List.modify_succ_cons,aX h r i]
theorem Stamped.modify {l:List MapEntry} {clock i:Nat} {f:MapEntry->MapEntry} (h:Stamped l clock) (V:∀ e,(f e).born=e.born):Stamped (l.modify i f) clock:=by have e:=aX (g:=λe:MapEntry=>e.born) V l i;refine⟨by rw[e]; exact h.1,λx U=>?_⟩;have J:x.born∈(l.modify i f).map (·.born):=AoD U;rw[e] at J;have⟨y,O,D⟩:=List.mem_map.1 J;rw[<-D]; exact h.2 y O
theorem Stamped.sub {l m:List MapEntry} {clock:Nat} (h:Stamped l clock) (D:m.Sublist l):Stamped m clock:=⟨(D.map _).nodup h.1,λx J=>h.2 x (D.mem J)⟩
def OwnMap (ke:κ->Value) (El:EE α) (ag:Bool) (b:Nat) (kvs:List (κ×α)):HA where
 holds I h:=∃ es clock,h b=some (.map es clock)∧EntsR ke El ag I es.toList kvs∧Stamped es.toList clock
 mono:=λhI hh ⟨es,clock,h1,h2,h3⟩=>⟨es,clock,hh _ _ h1,h2.mono hI,h3⟩
def U4 (k:κ):List MapEntry->List κ->Nat->Option (Nat×Value)
 | e :: es,x :: ks,j=>if k=x then some (j,e.val) else U4 k es ks (j+1)
 | _,_,_=>none
structure iG (P:Program) (kt:TypeId) (ke:κ→Value):Prop where
 chk:∀ e k w,(Instr.checkKey e 10000 kt (ke k)).run P w=.ok () w
 find:∀ (k:κ) (es:List MapEntry) (ks:List κ) (w:World),es.map (·.key)=ks.map ke→(Instr.findKey kt (ke k) es).run P w=.ok (U4 k es ks 0) w
 same:∀ k,Instr.sameBits 10000 (ke k) (ke k)=true
theorem rM {q:IntKind} (k:Int):∀ (es:List MapEntry) (D:List Int) (j:Nat),es.map (·.key)=D.map (Value.int q)->Instr.findNow (.int q) (.int q k) es j=some (U4 k es D j)
 | [],[],_,_=>rfl
 | e :: es,x :: D,j,h=>by
  simp only[OU,AeE] at h;simp only[Instr.findNow,h.1,Instr.sameNow,if_true];by_cases hk:k=x
  . subst hk; simp[U4]
  . have:(k==x)=false:=by simpa using hk
    simp only[this,U4,hk,if_false];exact rM k es D (j+1) h.2
 | [],_ :: _,_,h=>by simp at h
 | _ :: _,[],_,h=>by simp at h
theorem JQ {q:IntKind} {kt:TypeId} (hd:P.underlying kt=some (.int q)):iG P kt (Value.int q) where
 chk e k w:=by show(Instr.checkKey e (9999+1) kt _).run P w=_;unfold Instr.checkKey;simp only[Sem.run_bind,run_underlying hd,Result.andThen_ok];rfl
 find k es ks w h:=by simp[Instr.findKey,run_underlying hd,rM k es ks 0 h]
 same k:=by simp[Instr.sameBits]
theorem EntsR.keys:∀ {es:List MapEntry} {l:List (κ×α)},EntsR ke El ag I es l->es.map (·.key)=(l.map (·.1)).map ke
 | [],[],_=>rfl
 | _ :: _,_ :: _,⟨D,_,J⟩=>by simp only[OU,D]; rw[J.keys]
 | [],_ :: _,h=>h.elim
 | _ :: _,[],h=>h.elim
theorem EntsR.miss (k:κ):∀ {es:List MapEntry} {l:List (κ×α)} {j:Nat},EntsR ke El ag I es l->U4 k es (l.map (·.1)) j=none->BG k l=none∧(∀ v,EJ k v l=l++[(k,v)])∧FJ k l=l
 | [],[],_,_,_=>⟨rfl,λ_=>rfl,rfl⟩
 | _ :: _,p :: _,j,⟨_,_,h⟩,hf=>by
  simp only[OU,U4] at hf;split at hf
  . cases hf
  . rename_i hk;have⟨_,_,_⟩:=EntsR.miss k h hf;grind[BG,EJ,FJ]
 | [],_ :: _,_,h,_=>h.elim
 | _ :: _,[],_,h,_=>h.elim
theorem EntsR.hit (k:κ):∀ {es:List MapEntry} {l:List (κ×α)} {j i:Nat} {v:Value},EntsR ke El ag I es l->U4 k es (l.map (·.1)) j=some (i,v) ->
  ∃ O,i=j+O∧(∃ e,es[O]? = some e∧e.key=ke k∧e.val=v)∧(∃ x cs,BG k l=some x∧El.rep I cs x∧ofC ag cs v) ∧
    (∀ (f:MapEntry->MapEntry) (x:α),(∀ e,e.key=ke k->(f e).key=ke k)->(∀ e,∃ cs,El.rep I cs x∧ofC ag cs (f e).val)->EntsR ke El ag I (es.modify O f) (EJ k x l))∧EntsR ke El ag I (es.eraseIdx O) (FJ k l)
 | [],[],_,_,_,_,hf=>by cases hf
 | e :: es,p :: l,j,i,v,⟨h1,h2,h⟩,hf=>by
  simp only[OU,U4] at hf;split at hf
  . rename_i hk;cases hf;refine⟨0,rfl,⟨e,rfl,by rw[h1,hk],rfl⟩,?_,?_,?_⟩
    . have⟨cs,U,V⟩:=h2;exact⟨p.2,cs,by simp[BG,hk],U,V⟩
    . intro f x J D;simp only[List.modify_zero_cons,EJ,hk,if_true];exact⟨by rw[J e (by rw[h1,hk]),hk],D e,h⟩
    . simp only[List.eraseIdx_cons_zero,FJ,hk,if_true]; exact h
  . rename_i hk;have⟨O,_,U,V,g3,Z⟩:=EntsR.hit k h hf;refine⟨O+1,by omega,by simpa using U,?_,?_,?_⟩
    . have⟨x,cs,e1,e2,W⟩:=V;exact⟨x,cs,by simp[BG,hk,e1],e2,W⟩
    . intro f x J D;simp only[List.modify_succ_cons,EJ,hk,if_false];exact⟨h1,h2,g3 f x J D⟩
    . simp only[Ao8,FJ,hk,if_false]; exact⟨h1,h2,Z⟩
 | [],_ :: _,_,_,_,h,_=>h.elim
 | _ :: _,[],_,_,_,h,_=>h.elim
theorem EntsR.push {k:κ} {x:α} {e:MapEntry} (hk:e.key=ke k) (D:∃ cs,El.rep I cs x∧ofC ag cs e.val):∀ {es:List MapEntry} {l:List (κ×α)},EntsR ke El ag I es l->EntsR ke El ag I (es++[e]) (l++[(k,x)])
 | [],[],_=>⟨hk,D,trivial⟩
 | _ :: _,_ :: _,⟨J,O,h⟩=>⟨J,O,EntsR.push hk D h⟩
 | [],_ :: _,h=>h.elim
 | _ :: _,[],h=>h.elim
theorem EntsR.length:∀ {es:List MapEntry} {l:List (κ×α)},EntsR ke El ag I es l->es.length=l.length
 | [],[],_=>rfl
 | _ :: _,_ :: _,⟨_,_,h⟩=>by simp[h.length]
 | [],_ :: _,h=>h.elim
 | _ :: _,[],h=>h.elim
variable {b:Nat} {kvs:List (κ×α)} {kt et:TypeId} {k:κ}
theorem OwnMap.opn {r:List HA} (h:Sym w0 M I0 I (OwnMap ke El ag b kvs :: r) w):∃ es clock,(EntsR ke El ag I es.toList kvs∧Stamped es.toList clock)∧Sym w0 M I0 I (pto b (.map es clock) :: r) w:=by have⟨U,hi,V,q,⟨h1,h2,hd',hl1,hl2,⟨es,clock,O,J,D⟩,hs'⟩,hk,hdj,hm⟩:=h;exact⟨es,clock,⟨J,D⟩,U,hi,V,q,⟨h1,h2,hd',hl1,hl2,O,hs'⟩,hk,hdj,hm⟩
theorem OwnMap.cls {r:List HA} {es:Array MapEntry} {clock:Nat} (D:EntsR ke El ag I es.toList kvs∧Stamped es.toList clock) (h:Sym w0 M I0 I (pto b (.map es clock) :: r) w):Sym w0 M I0 I (OwnMap ke El ag b kvs :: r) w:=
 h.weaken λ_ hk=>⟨es,clock,hk,D.1,D.2⟩
theorem OwnMap.set {r:List HA} {es es':Array MapEntry} {clock clock':Nat} (D:EntsR ke El ag I es'.toList kvs∧Stamped es'.toList clock') (h:Sym w0 M I0 I (pto b (.map es clock) :: r) w) :
  ∃ w',(setObj b (.map es' clock')).run P w=.ok () w'∧Sym w0 M I0 I (OwnMap ke El ag b kvs :: r) w':=by
 have hp:=h.pto;refine⟨_,MapKept.run_setObj_map _ hp,OwnMap.cls (clock:=clock') D (h.upd rfl rfl rfl rfl (by simp) (λ_ _=>?_) ?_)⟩
 all_goals grind
theorem Ops.mkMap (ke:κ->Value) (El:EE α) (ag:Bool) (O:Nat.blt d n.sz=true) (V:fresh E d=true)
  (U:∀ b,Ops P ops l n ((d,.map (some b)) :: E) (Sym w0 M I0 I (OwnMap ke El ag b [] :: m)) Q):Ops P ops (⟨some d,.makeMap T none,ty,pos,af,none⟩ :: l) n E (Sym w0 M I0 I m) Q:=
 Ops.valx (λv w'=>∃ b,v=.map (some b)∧Sym w0 M I0 I (OwnMap ke El ag b [] :: m) w') rfl rfl
  (λc w D h=>⟨.map (some w.heap.size),w.alloc (.map #[] 0),by simp[execOp,Instr.makeMap],_,rfl,OwnMap.cls ⟨by trivial,by simp[Stamped]⟩ (h.alloc _)⟩) O V
  (λv c w D ⟨b,J,h⟩=>by subst J; exact U b c w D h)
theorem cH {r:List HA} (K:iG P kt ke) (Z:P.underlying T=some (.map kt et)) {zv:Value} {z:α} (hz:∀ w,(zeroValue et).run P w=.ok zv w) (U:∃ cs,El.rep I cs z∧ofC ag cs zv)
  (a2:Sym w0 M I0 I (OwnMap ke El ag b kvs :: r) w) (O:Bool) :
  ∃ v cs,El.rep I cs ((BG k kvs).getD z)∧ofC ag cs v∧(Instr.lookup T (.map (some b)) (ke k) O).run P w=.ok (if O then .tuple #[v,.bool (BG k kvs).isSome] else v) w:=by
 have⟨es,_,⟨hE,_⟩,hs⟩:=OwnMap.opn a2;have hp:=hs.pto;have D:=K.find k es.toList (kvs.map (·.1)) w hE.keys
 cases h:U4 k es.toList (kvs.map (·.1)) 0 with
 | none=>
  have⟨J,_,_⟩:=hE.miss k h;have⟨cs,V,W⟩:=U;refine⟨zv,cs,by rw[J]; exact V,W,?_⟩;rw[J];simp only[Instr.lookup,Sem.run_bind,run_underlying Z,Result.andThen_ok,MapKept.run_getObj_map hp,Sem.run_pure,K.chk,D,h,hz]
  cases O <;> rfl
 | some iv=>
  have⟨_,v⟩:=iv;have⟨_,_,_,⟨_,cs,J,V,W⟩,_,_⟩:=hE.hit k h;refine⟨v,cs,by rw[J]; exact V,W,?_⟩;rw[J];simp only[Instr.lookup,Sem.run_bind,run_underlying Z,Result.andThen_ok,MapKept.run_getObj_map hp,Sem.run_pure,K.chk,D,h];cases O <;> rfl
theorem Ops.lookM {zv:Value} {z:α} {C:α->Prop} (K:iG P kt ke) (hT:P.underlying T=some (.map kt et)) (V:∀ w,(zeroValue et).run P w=.ok zv w) (O:∃ cs,El.rep I cs z∧ofC ag cs zv)
  (hA:Del m (OwnMap ke El ag b kvs) m') (hx:ev E x=some (.map (some b))) (hy:ev E y=some (ke k)) (Z:lkP kvs k z C) (hb:Nat.blt d n.sz=true) (hf:fresh E d=true)
  (W:∀ v r cs,C r->El.rep I cs r->ofC ag cs v->Ops P ops l n ((d,v) :: E) (Sym w0 M I0 I m) Q):Ops P ops (⟨some d,.lookup T x y false,ty,pos,af,none⟩ :: l) n E (Sym w0 M I0 I m) Q:=
 Ops.valx (λv w'=>(∃ cs,El.rep I cs ((BG k kvs).getD z)∧ofC ag cs v)∧Sym w0 M I0 I m w') rfl rfl
  (λc w D h=>by have⟨v,cs,J,U,g3⟩:=cH (k:=k) K hT V O (h.del hA) false;refine⟨v,w,?_,⟨cs,J,U⟩,h⟩;simp[execOp,D.eval hx,D.eval hy,g3]) hb hf
  (λv c w D ⟨⟨cs,J,U⟩,h⟩=>W v _ cs Z J U c w D h)
theorem Ops.lookM2 {zv:Value} {z:α} {C:α->Bool->Prop} (K:iG P kt ke) (hT:P.underlying T=some (.map kt et)) (V:∀ w,(zeroValue et).run P w=.ok zv w) (O:∃ cs,El.rep I cs z∧ofC ag cs zv)
  (hA:Del m (OwnMap ke El ag b kvs) m') (hx:ev E x=some (.map (some b))) (hy:ev E y=some (ke k)) (Z:yQ kvs k z C) (hb:Nat.blt d n.sz=true) (hf:fresh E d=true)
  (W:∀ v r t cs,C r t->El.rep I cs r->ofC ag cs v->Ops P ops l n ((d,.tuple #[v,.bool t]) :: E) (Sym w0 M I0 I m) Q):Ops P ops (⟨some d,.lookup T x y true,ty,pos,af,none⟩ :: l) n E (Sym w0 M I0 I m) Q:=
 Ops.valx (λu w'=>(∃ v cs,u=.tuple #[v,.bool (BG k kvs).isSome]∧El.rep I cs ((BG k kvs).getD z)∧ofC ag cs v)∧Sym w0 M I0 I m w') rfl rfl
  (λc w D h=>by have⟨v,cs,J,U,g3⟩:=cH (k:=k) K hT V O (h.del hA) true;refine⟨_,w,?_,⟨v,cs,rfl,J,U⟩,h⟩;simp[execOp,D.eval hx,D.eval hy,g3]) hb hf
  (λu c w D ⟨⟨v,cs,hu,J,U⟩,h⟩=>by subst hu; exact W v _ _ cs Z J U c w D h)
theorem Ops.updM {v:α} {u:Value} (K:iG P kt ke) (hT:P.underlying T=some (.map kt et)) (hA:At m (OwnMap ke El ag b kvs) m' (OwnMap ke El ag b (EJ k v kvs))) (hx:ev E x=some (.map (some b))) (hy:ev E y=some (ke k)) (hv:ev E z=some u)
    (hr:∃ cs,El.rep I cs v∧ofC ag cs u) (k':Ops P ops l n E (Sym w0 M I0 I m') Q):Ops P ops (⟨none,.mapUpdate T x y z,ty,pos,af,none⟩ :: l) n E (Sym w0 M I0 I m) Q:=
  Ops.act rfl rfl (fun c w ho hs=>by
    obtain ⟨r,h2,h3⟩:=hA.del
    obtain ⟨es,clock,⟨hE,hSt⟩,hs1⟩:=OwnMap.opn (hs.del h2)
    have hp:=hs1.pto
    have hfd:=K.find k es.toList (kvs.map (·.1)) w hE.keys
    cases hf:U4 k es.toList (kvs.map (·.1)) 0 with
    | none=>
      obtain ⟨_,g2,_⟩:=hE.miss k hf
      obtain ⟨w',hr',hs'⟩:=OwnMap.set (P:=P) (es':=es.push { key:=ke k,val:=u,born:=clock }) (clock':=clock+1) (kvs:=EJ k v kvs) (by rw [g2,Array.toList_push]; exact ⟨EntsR.push (ke:=ke) (e:={ key:=ke k,val:=u,born:=clock }) rfl hr hE,hSt.push rfl⟩) hs1
      refine ⟨w',?_,hs'.undel h3⟩
      simp only [execOp,ho.eval hx,ho.eval hy,ho.eval hv,Instr.mapUpdate,Sem.run_bind,run_underlying hT,Result.andThen_ok,MapKept.run_getObj_map hp,K.chk,hfd,hf,hr',Sem.run_pure]
    | some iv=>
      obtain ⟨i,u'⟩:=iv
      obtain ⟨i',hi,⟨e0,q1,q2,q3⟩,_,g3,_⟩:=hE.hit k hf
      have hi':i'=i:=by omega
      subst hi'
      have hkey:((es[i']?.map (·.key)).getD (ke k))=ke k:=by
        grind
      obtain ⟨w',hr',hs'⟩:=OwnMap.set (P:=P) (es':=es.modify i' fun e=>{ e with key:=ke k,val:=u }) (clock':=clock) (kvs:=EJ k v kvs) (by rw [Array.toList_modify]; exact ⟨g3 _ _ (fun _ _=>rfl) (fun _=>hr),hSt.modify fun _=>rfl⟩) hs1
      refine ⟨w',?_,hs'.undel h3⟩
      simp only [execOp,ho.eval hx,ho.eval hy,ho.eval hv,Instr.mapUpdate,Sem.run_bind,run_underlying hT,Result.andThen_ok,MapKept.run_getObj_map hp,K.chk,hfd,hf,hkey,Instr.keyThatStays,K.same,if_true,hr',Sem.run_pure]) k'
theorem Ops.delM {U:Array TypeId} (K:iG P kt ke) (hT:P.underlying T=some (.map kt et)) (a2:U[0]? = some T) (hA:At m (OwnMap ke El ag b kvs) m' (OwnMap ke El ag b (FJ k kvs))) (hx:ev E x=some (.map (some b))) (hy:ev E y=some (ke k))
  (k':Ops P ops l n E (Sym w0 M I0 I m') Q):Ops P ops (⟨none,.call ⟨.builtin .delete,#[x,y],U⟩,ty,pos,af,none⟩ :: l) n E (Sym w0 M I0 I m) Q:=
 Ops.val0 rfl rfl (fun c w ho hs=>by
  obtain ⟨_,h2,h3⟩:=hA.del
  obtain ⟨es,clock,⟨Z,V⟩,hs1⟩:=OwnMap.opn (hs.del h2)
  have hp:=hs1.pto
  have O:=K.find k es.toList (kvs.map (·.1)) w Z.keys
  have e0:(#[x,y].map c.eval) = #[.map (some b),ke k]:=by simp [ho.eval hx,ho.eval hy]
  cases h:U4 k es.toList (kvs.map (·.1)) 0 with
  | none=>
   obtain ⟨_,_,g3⟩:=Z.miss k h
   obtain ⟨w',J,D⟩:=OwnMap.set (P:=P) (es':=es) (clock':=clock) (kvs:=FJ k kvs) (by rw [g3]; exact ⟨Z,V⟩) hs1
   refine ⟨.tuple #[],w',?_,D.undel h3⟩
   simp [execOp,resolve,e0,invoke,builtin,Builtin.delete_,a2,run_underlying hT,MapKept.run_getObj_map hp,K.chk,O,h,J]
  | some iv=>
   obtain ⟨i,_⟩:=iv
   obtain ⟨W,_,_,_,_,g4⟩:=Z.hit k h
   have a4:W=i:=by omega
   subst a4
   obtain ⟨w',J,D⟩:=OwnMap.set (P:=P) (es':=es.eraseIdxIfInBounds W) (clock':=clock) (kvs:=FJ k kvs) (by
    have e1:(es.eraseIdxIfInBounds W).toList=es.toList.eraseIdx W:=by
     unfold Array.eraseIdxIfInBounds
     split
     · simp
     · rw [List.eraseIdx_of_length_le (by simp; omega)]
    rw [e1]; exact ⟨g4,V.sub (List.eraseIdx_sublist _ _)⟩) hs1
   refine ⟨.tuple #[],w',?_,D.undel h3⟩
   simp [execOp,resolve,e0,invoke,builtin,Builtin.delete_,a2,run_underlying hT,MapKept.run_getObj_map hp,K.chk,O,h,J]) k'
theorem AeQ {J:TypeDesc} (O:∀ k x,Instr.sameNow J (ke k) (ke x)=none) (k:κ):∀ (es:List MapEntry) (D:List κ),es.map (·.key)=D.map ke->Instr.findNow J (ke k) es 0=if es=[] then some none else none
 | [],[],_=>by simp[Instr.findNow]
 | e :: es,x :: D,h=>by
  simp only[OU,AeE] at h;simp[Instr.findNow,h.1,O]
 | [],_ :: _,h=>by simp at h
 | _ :: _,[],h=>by simp at h
theorem iH (D:∀ (k x:κ) (w:World),(Op.equal kt (ke k) (ke x)).run P w=.ok (decide (k=x)) w) (k:κ):∀ (es:List MapEntry) (J:List κ) (j:Nat) (w:World),es.map (·.key)=J.map ke->(Instr.findAsking kt (ke k) es j).run P w=.ok (U4 k es J j) w
 | [],[],_,_,_=>rfl
 | e :: es,x :: J,j,w,h=>by
  simp only[OU,AeE] at h;simp only[Instr.findAsking,Sem.run_bind,h.1,D,Result.andThen_ok];by_cases hk:k=x
  . simp[hk,U4]
  . simp only[hk,decide_false,AbS,if_false,U4];exact iH D k es J (j+1) w h.2
 | [],_ :: _,_,_,h=>by simp at h
 | _ :: _,[],_,_,h=>by simp at h
theorem Aw0 {kd:TypeDesc} (hd:P.underlying kt=some kd) (hn:∀ k x,Instr.sameNow kd (ke k) (ke x)=none) (heq:∀ (k x:κ) (w:World),(Op.equal kt (ke k) (ke x)).run P w=.ok (decide (k=x)) w)
  (hchk:∀ e k w,(Instr.checkKey e 10000 kt (ke k)).run P w=.ok () w) (hsame:∀ k,Instr.sameBits 10000 (ke k) (ke k)=true):iG P kt ke where
 chk:=hchk
 find k es ks w h:=by
  have h1:=AeQ hn k es ks h;simp only[Instr.findKey,Sem.run_bind,run_underlying hd,Result.andThen_ok,h1];by_cases h0:es=[]
  . subst h0
    cases ks with
    | nil=>rfl
    | cons=>simp at h
  all_goals grind[iH]
 same:=hsame
def IK (x:Int×Int):Value:=.agg #[.int .i64 x.1,.int .i64 x.2]
theorem At8 (d:Nat) {t e:TypeId} {i:TypeInfo} (W:P.underlying t=some (.array 2 e)) (hi:P.info? e=some i) (O:P.underlying e=some (.int .i64)) (Z:P.cellsOf e=1) (h:∀ w,(isAgg e).run P w=.ok false w) (k x:Int×Int) (w:World) :
   (Op.equalIn (d+2) t (IK k) (IK x)).run P w=.ok (decide (k=x)) w:=by
 have⟨V,k2⟩:=k;have⟨U,J⟩:=x;unfold IK;rw[run_equalIn_array w (d+1) _ _ W hi];have D:=λa b=>run_equalIn_int (P:=P) w d e .i64 .i64 a b O;simp only[Z,show List.range 2=[0,1] from rfl,Op.eqItems,Sem.run_bind,part,h,Result.andThen_ok];simp[D];by_cases e1:V=U
 . by_cases e2:k2=J <;> simp[e1,e2,h,D]
 . simp[e1,h]
theorem Ak4 {kt e:TypeId} {i:TypeInfo} (h:P.underlying kt=some (.array 2 e)) (hi:P.info? e=some i) (O:P.underlying e=some (.int .i64)) (V:P.cellsOf e=1) (D:∀ w,(isAgg e).run P w=.ok false w) (U:∀ w,(sizeOf e).run P w=.ok 1 w):iG P kt IK:=by
 refine Aw0 h (λ_ _=>rfl) (λk x w=>At8 9998 h hi O V D k x w) (λJ k w=>?_) (λk=>?_)
 . show(Instr.checkKey J (9998+1+1) kt _).run P w=_;unfold Instr.checkKey IK;simp only[Sem.run_bind,run_underlying h,Result.andThen_ok]
   have W:∀ (a:Int) (w:World),(Instr.checkKey J (9998+1) e (.int .i64 a)).run P w=.ok () w:=λa w=>by unfold Instr.checkKey;simp only[Sem.run_bind,run_underlying O,Result.andThen_ok];rfl
   simp[Std.Legacy.Range.forIn_eq_forIn_range',Std.Legacy.Range.size,List.range',U,part,D,W]
 . simp[IK,Instr.sameBits]
def AaE (rest:List (κ×α)) (A:Prop) (B:κ×α->List (κ×α)->Prop):Prop:=(rest=[]->A)∧∀ (i:Nat) (p:κ×α),rest[i]? = some p->B p (rest.eraseIdx i)
def ApB (cur:Option (Value×Value)) (es:List MapEntry) (clock h:Nat) (seen:Array Nat):Prop:=match cur with
 | none=>True
 | some kv=>clock=h∧∃ e∈es,seen.back? = some e.born∧e.key=kv.1∧e.val=kv.2
def OwnIt (ke:κ->Value) (El:EE α) (ag:Bool) (b r:Nat) (kvs rest:List (κ×α)) (cur:Option (Value×Value)):HA where
 holds I h:=∃ es clock since seen c0,h b=some (.map es clock)∧EntsR ke El ag I es.toList kvs∧Stamped es.toList clock∧h r=some (.mapIter (some b) since seen c0)∧(∀ e∈es.toList,e.born<since)∧since<=c0∧since<=clock∧EntsR ke El ag I (leftOf es seen).toList rest∧ApB cur es.toList clock c0 seen
 mono:=λhI hh ⟨es,clock,since,seen,c0,h1,h2,h3,h4,h5,h6,h7,h8,h9⟩=>⟨es,clock,since,seen,c0,hh _ _ h1,h2.mono hI,h3,hh _ _ h4,h5,h6,h7,h8.mono hI,h9⟩
theorem EntsR.get:∀ {es:List MapEntry} {l:List (κ×α)} {i:Nat} {e:MapEntry},EntsR ke El ag I es l→es[i]? = some e→∃ p,l[i]? = some p∧e.key=ke p.1∧∃ cs,El.rep I cs p.2∧ofC ag cs e.val
 | _ :: _,p :: _,0,_,⟨h1,h2,_⟩,he=>by cases he; exact ⟨p,rfl,h1,h2⟩
 | _ :: _,_ :: _,i+1,_,⟨_,_,h⟩,he=>by
  obtain ⟨p,_⟩:=EntsR.get (i:=i) h (by simpa using he)
  grind
 | [],[],_,_,_,he=>by simp at he
 | [],_ :: _,_,_,h,_=>h.elim
 | _ :: _,[],_,_,h,_=>h.elim
theorem EntsR.erase:∀ {es:List MapEntry} {l:List (κ×α)} (i:Nat),EntsR ke El ag I es l->EntsR ke El ag I (es.eraseIdx i) (l.eraseIdx i)
 | [],[],_,_=>trivial
 | _ :: _,_ :: _,0,⟨_,_,h⟩=>h
 | _ :: _,_ :: _,i+1,⟨D,J,h⟩=>⟨D,J,EntsR.erase i h⟩
 | [],_ :: _,_,h=>h.elim
 | _ :: _,[],_,h=>h.elim
theorem lY {e:MapEntry}:∀ {l:List MapEntry} {i:Nat},(l.map (·.born)).Nodup->l[i]? = some e->l.filter (λx=>!(x.born==e.born))=l.eraseIdx i
 | [],_,_,h=>by simp at h
 | x :: r,0,hn,h=>by
  cases h;simp only[OU,uQ] at hn;simp only[AoH,beq_self_eq_true,Bool.not_true,AbS,if_false,List.eraseIdx_cons_zero];refine List.filter_eq_self.2 λy U=>?_;have:y.born≠e.born:=λJ=>hn.1 (J▸AoD U);simpa using this
 | x :: r,i+1,hn,h=>by
  simp only[OU,uQ] at hn;have O:r[i]? = some e:=by simpa using h
  have D:x.born≠e.born:=λJ=>hn.1 (J▸AoD (AoO O));have V:(x.born==e.born)=false:=by simpa using D
  simp only[AoH,V,Bool.not_false,if_true,Ao8];rw[lY hn.2 O]
theorem Ac1 {es:Array MapEntry} {seen:Array Nat} {e:MapEntry} {i:Nat} {clock:Nat} (J:Stamped es.toList clock) (hi:(leftOf es seen).toList[i]? = some e):(leftOf es (seen.push e.born)).toList=(leftOf es seen).toList.eraseIdx i:=by
 have h:(leftOf es seen).toList.Sublist es.toList:=by unfold leftOf; simp_all
 have D:((leftOf es seen).toList.map (·.born)).Nodup:=(h.map _).nodup J.1;rw[<-lY D hi];unfold leftOf;rw[Array.toList_filter,Array.toList_filter,List.filter_filter];grind
theorem Sym.join2 {A B C:HA} {l:List HA} (h:Sym w0 M I0 I (A :: B :: l) w) (Z:∀ D J,D.disj J->A.holds I D->B.holds I J->C.holds I (D.union J)):Sym w0 M I0 I (C :: l) w:=by
 have⟨W,hi,hn,k,⟨D,_,hd,hl1,hl2,ha,J,h3,hd',hl3,hl4,hB,hs⟩,hk,hdj,hm⟩:=h;have U:D.disj J:=hd.mono (IH.le.refl _) hl3;have V:D.disj h3:=hd.mono (IH.le.refl _) hl4;refine⟨W,hi,hn,k,⟨D.union J,h3,?_,IH.union_le hl1 (hl3.trans hl2),hl4.trans hl2,Z D J U ha hB,hs⟩,hk,hdj,hm⟩;intro b;rcases V b with h | h
 . rcases hd' b with O | O
   . left; simp[IH.union,h,O]
   . exact .inr O
 . exact .inr h
theorem Sym.split2 {A B C:HA} {l:List HA} (h:Sym w0 M I0 I (C :: l) w) (Z:∀ q,C.holds I q->∃ J D,J.disj D∧J.le q∧D.le q∧A.holds I J∧B.holds I D):Sym w0 M I0 I (A :: B :: l) w:=by
 have⟨hb,hi,hn,k,⟨q,k1,hd,hl1,hl2,ha,hs⟩,hk,hdj,hm⟩:=h;have⟨J,D,O,W,V,hA,hB⟩:=Z q ha;refine⟨hb,hi,hn,k,⟨J,D.union k1,?_,W.trans hl1,IH.union_le (V.trans hl1) hl2,hA,D,k1,hd.mono V (IH.le.refl _),IH.le_union_left _ _,IH.le_union_right (hd.mono V (IH.le.refl _)),hB,hs⟩,hk,hdj,hm⟩;intro b;rcases O b with h | h
 . exact .inl h
 . rcases(hd.mono W (IH.le.refl k1)) b with U | U
   . exact .inl U
   . right; simp[IH.union,h,U]
variable {r:Nat} {rest:List (κ×α)}
def pto2 (b:Nat) (o:Obj) (r:Nat) (o':Obj):HA where
 holds _ h:=h b=some o∧h r=some o'
 mono:=λ_ hh h=>⟨hh _ _ h.1,hh _ _ h.2⟩
theorem Sym.pto2 {b r:Nat} {o o':Obj} {l:List HA} (D:r≠b) (h:Sym w0 M I0 I (Fw.pto2 b o r o' :: l) w):Sym w0 M I0 I (Fw.pto r o' :: Fw.pto b o :: l) w:=by
 refine h.split2 λ_ O=>⟨GX r o',GX b o,λc=>?_,λc p e=>?_,λc p e=>?_,by simp[Fw.pto,GX],by simp[Fw.pto,GX]⟩
 . by_cases e:c=r
   . right; subst e; simp[GX,D]
   . left; simp[GX,e]
 . simp only[GX] at e; split at e
   . rename_i J; subst J; cases e; exact O.2
   . cases e
 . simp only[GX] at e; split at e
   . rename_i J; subst J; cases e; exact O.1
   . cases e
theorem OwnIt.opn {cur:Option (Value×Value)} {l:List HA} (h:Sym w0 M I0 I (OwnIt ke El ag b r kvs rest cur :: l) w):∃ es clock D seen J,EntsR ke El ag I es.toList kvs∧Stamped es.toList clock∧(∀ e∈es.toList,e.born<D)∧D<=J∧D<=clock∧EntsR ke El ag I (leftOf es seen).toList rest∧ApB cur es.toList clock J seen ∧
  Sym w0 M I0 I (pto r (.mapIter (some b) D seen J) :: pto b (.map es clock) :: l) w:=by
 have⟨hb,hi,hn,q,⟨q1,q2,hd',hl1,hl2,⟨es,clock,D,seen,J,V,g2,g3,U,g5,g6,g7,g8,W⟩,hs'⟩,hkk,hdj,hm⟩:=h;have O:r≠b:=λe=>by subst e; rw[V] at U; cases U
 have Z:Sym w0 M I0 I (Fw.pto2 b (.map es clock) r (.mapIter (some b) D seen J) :: l) w:=⟨hb,hi,hn,q,⟨q1,q2,hd',hl1,hl2,⟨V,U⟩,hs'⟩,hkk,hdj,hm⟩;exact⟨es,clock,D,seen,J,g2,g3,g5,g6,g7,g8,W,Z.pto2 O⟩
theorem OwnIt.cls {l:List HA} {es:Array MapEntry} {clock D J:Nat} {seen:Array Nat} (W:EntsR ke El ag I es.toList kvs) (h3:Stamped es.toList clock) (U:∀ e∈es.toList,e.born<D) (Z:D<=J) (h7:D<=clock) (h8:EntsR ke El ag I (leftOf es seen).toList rest) (O:ApB cur es.toList clock J seen)
  (h:Sym w0 M I0 I (pto r (.mapIter (some b) D seen J) :: pto b (.map es clock) :: l) w):Sym w0 M I0 I (OwnIt ke El ag b r kvs rest cur :: l) w:=
 h.join2 λq1 q2 V ha hb=>⟨es,clock,D,seen,J,IH.le_union_right V _ _ hb,W,h3,IH.le_union_left q1 q2 _ _ ha,U,Z,h7,h8,O⟩
theorem Ops.rangeM (V:P.underlying T=some (.map kt et)) (W:Del m (OwnMap ke El ag b kvs) m') (hx:ev E x=some (.map (some b))) (Z:Nat.blt d n.sz=true) (U:fresh E d=true)
  (O:∀ r,Ops P ops l n ((d,.pointer (some ⟨r,0,none⟩)) :: E) (Sym w0 M I0 I (OwnIt ke El ag b r kvs kvs none :: m')) Q):Ops P ops (⟨some d,.range T x,ty,pos,af,none⟩ :: l) n E (Sym w0 M I0 I m) Q:=
 Ops.valx (λv w'=>∃ r,v=.pointer (some ⟨r,0,none⟩)∧Sym w0 M I0 I (OwnIt ke El ag b r kvs kvs none :: m') w') rfl rfl
  (λc w D h=>by
   have⟨es,clock,⟨hE,hSt⟩,hs1⟩:=OwnMap.opn (h.del W);have hp:=hs1.pto;refine⟨.pointer (some ⟨w.heap.size,0,none⟩),w.alloc (.mapIter (some b) clock #[] clock),?_,_,rfl,OwnIt.cls (seen:=#[]) hE hSt hSt.2 (Z0 _) (Z0 _) ?_ trivial (hs1.alloc _)⟩
   . simp only[execOp,D.eval hx,Instr.range,Sem.run_bind,run_underlying V,Result.andThen_ok,MapKept.run_getObj_map hp,Sem.run_pure];rfl
   . have:leftOf es #[]=es:=by unfold leftOf; rw[Array.filter_eq_self]; simp
     rw[this]; exact hE) Z U
  (λv c w D ⟨r,J,h⟩=>by subst J; exact O r c w D h)
theorem Ops.nextM {A:Prop} {B:κ×α->List (κ×α)->Prop} (hA:Del m (OwnIt ke El ag b r kvs rest cur) m') (hx:ev E x=some (.pointer (some ⟨r,0,none⟩))) (hd:AaE rest A B) (hb:Nat.blt d n.sz=true) (hf:fresh E d=true)
   (k1:A->rest=[]->Ops P ops l n ((d,.tuple #[.bool false]) :: E) (Sym w0 M I0 I m) Q)
   (k2:∀ (p:κ×α) (O:List (κ×α)) v cs,B p O->El.rep I cs p.2->ofC ag cs v->rest≠[]->Ops P ops l n ((d,.tuple #[.bool true,ke p.1,v]) :: E) (Sym w0 M I0 I (OwnIt ke El ag b r kvs O (some (ke p.1,v)) :: m')) Q) :
   Ops P ops (⟨some d,.next x false,ty,pos,af,none⟩ :: l) n E (Sym w0 M I0 I m) Q:=by
 intro c w W hs;have⟨es,clock,h,seen,c0,hE,a6,a2,c2,a4,Z,_,U⟩:=OwnIt.opn (hs.del hA);have hr:=U.pto;have a8:=(U.del (.s .z)).pto;refine wpListIn_plain rfl λ_ hK=>?_;rcases run_next_at (P:=P) w ty r b h c0 seen es clock hr a8 a2 c2 with⟨h0,J⟩ | ⟨e,he,V,d0,J⟩
 . have a5:rest=[]:=by have:=Z.length;grind
   have D:(execOp c.eval ⟨some d,.next x false,ty,pos,af,none⟩).run P w=.ok (.value (.tuple #[.bool false])) w:=by simp[execOp,W.eval hx,J]
   refine lR D (by simp) ?_;simp only[Oper.uponIn];exact hK _ _ (k1 (hd.1 a5) a5 _ _ (W.put hb hf _) hs)
 . have⟨i,hi⟩:=List.getElem?_of_mem he;have⟨p,hp,hkey,cs,d1,b0⟩:=Z.get hi;have D:(execOp c.eval ⟨some d,.next x false,ty,pos,af,none⟩).run P w=.ok (.value (.tuple #[.bool true,e.key,e.val])) (ChangeMaps.setBlock V r (.mapIter (some b) h (seen.push e.born) clock)):=by simp[execOp,W.eval hx,J]
   refine lR D (by simp) ?_;simp only[Oper.uponIn]
   have a7:Sym w0 M I0 I (pto r (.mapIter (some b) h seen c0) :: pto b (.map es clock) :: m') V:=by
     rcases d0 with rfl | rfl
     . exact U
     . exact U.drew _ (AjZ _)
   have b1:=a7.pto
   have c1:=a7.upd (o':=.mapIter (some b) h (seen.push e.born) clock) (w':=ChangeMaps.setBlock V r (.mapIter (some b) h (seen.push e.born) clock)) rfl rfl rfl rfl (by simp[ChangeMaps.setBlock])
     (λq _=>by show(V.heap.setIfInBounds r _)[q]? = _; rw[Ao5,if_neg (by omega)])
     (by show(V.heap.setIfInBounds r _)[r]? = _; have:=(Array.getElem?_eq_some_iff.1 b1).1; rw[Ao5,if_pos rfl,if_pos this])
   have a9:rest≠[]:=λe'=>by rw[e'] at hp; simp at hp
   rw[hkey];refine hK _ _ (k2 p (rest.eraseIdx i) e.val cs (hd.2 i p hp) d1 b0 a9 _ _ (W.put hb hf _) (OwnIt.cls hE a6 a2 a4 a4 ?_ ⟨rfl,e,?_,by simp,hkey,rfl⟩ c1))
   . rw[Ac1 a6 hi];exact Z.erase i
   . have:e∈leftOf es seen:=by simpa using he
     unfold leftOf at this;grind
theorem Ops.entryM {kv V:Value} (hA:Del m (OwnIt ke El ag b r kvs rest (some (kv,V))) m') (hx:ev E x=some (.pointer (some ⟨r,0,none⟩))) (hb:Nat.blt d n.sz=true) (hf:fresh E d=true)
  (k':Ops P ops l n ((d,.tuple #[kv,V]) :: E) (Sym w0 M I0 I (OwnIt ke El ag b r kvs rest none :: m')) Q):Ops P ops (⟨some d,.entry x,ty,pos,af,none⟩ :: l) n E (Sym w0 M I0 I m) Q:=by
 intro c w Z hs;have⟨es,clock,D,seen,_,hE,W,U,a6,a2,hL,⟨h1,e,h2,_,h4,h5⟩,hs1⟩:=OwnIt.opn (hs.del hA);have hr:=hs1.pto;have a5:=(hs1.del (.s .z)).pto;simp only at h4 h5;refine wpListIn_plain rfl λ_ hK=>?_
 obtain⟨h,O⟩:∃ h:Array Nat,seen=h.push e.born:=by refine⟨seen.pop,?_⟩;grind
 subst O h1;have a4:=run_entry_at (P:=P) w r b D h es clock e hr a5 h2 W.1;have J:(execOp c.eval ⟨some d,.entry x,ty,pos,af,none⟩).run P w=.ok (.value (.tuple #[kv,V])) w:=by simp[execOp,Z.eval hx,a4,h4,h5]
 refine lR J (by simp) ?_;simp only[Oper.uponIn];exact hK _ _ (k' _ _ (Z.put hb hf _) (OwnIt.cls hE W U a6 a2 hL trivial hs1))
theorem Ops.itEnd (J:Del m (OwnIt ke El ag b r kvs rest cur) m') (O:Ops P ops l n E (Sym w0 M I0 I (OwnMap ke El ag b kvs :: m')) Q):Ops P ops l n E (Sym w0 M I0 I m) Q:=
 Ops.pre (λ_ h=>(h.del J).weaken (B:=OwnMap ke El ag b kvs) λ_ ⟨es,clock,_,_,_,D,V,U,_⟩=>⟨es,clock,D,V,U⟩) O
theorem Cod.itEnd {c:Code} (J:Del m (OwnIt ke El ag b r kvs rest cur) m') (O:Cod P c n E (Sym w0 M I0 I (OwnMap ke El ag b kvs :: m')) Q):Cod P c n E (Sym w0 M I0 I m) Q:=
 Cod.pre (λ_ h=>(h.del J).weaken (B:=OwnMap ke El ag b kvs) λ_ ⟨es,clock,_,_,_,D,V,U,_⟩=>⟨es,clock,D,V,U⟩) O
theorem Ops.lenM {D:Array TypeId} (V:P.underlying T=some (.map kt et)) (h:D[0]? = some T) (W:Del m (OwnMap ke El ag b kvs) m') (hx:ev E x=some (.map (some b))) (Z:Nat.blt d n.sz=true) (O:fresh E d=true)
  (J:Ops P ops l n ((d,.int .i64 (kvs.length:Int)) :: E) (Sym w0 M I0 I m) Q):Ops P ops (⟨some d,.call ⟨.builtin .len,#[x],D⟩,ty,pos,af,none⟩ :: l) n E (Sym w0 M I0 I m) Q:=
 Ops.val rfl rfl (λ_ _ ho hs=>by
  have⟨es,_,⟨hE,_⟩,hs1⟩:=OwnMap.opn (hs.del W);have U:es.size=kvs.length:=by have:=hE.length; simpa using this
  simp[execOp,resolve,invoke,builtin,Builtin.len_,ho.eval hx,h,run_underlying V,MapKept.run_getObj_map hs1.pto,goInt,U]) Z O J
end
theorem RepSl.ofNone {α:Type} {El:EE α} {cap:Nat} {xs:List α} {a:Option Addr} (h:RepSl El I a cap xs) (J:a.isNone=true):xs=[]:=by
 cases xs with
 | nil=>rfl
 | cons x r=>have⟨_,_,_,D,_⟩:=h.2 0 x rfl; subst D; cases J
def AeR {α:Type} (xs:List α) (A B:Prop):Prop:=(xs=[]->A)∧B
theorem yR (w:World) (d:Nat) (t e:TypeId) (a:Option Addr) (l c:Nat) (h:P.underlying t=some (.slice e)):(Op.equalIn (d+1) t (.slice a l c) (.slice none 0 0)).run P w=.ok a.isNone w:=by cases a <;> simp[Op.equalIn,run_underlying h]
theorem Ac2 (w:World) (t e:TypeId) (a:Option Addr) (l c:Nat) (h:P.underlying t=some (.slice e)):(Op.equal t (.slice a l c) (.slice none 0 0)).run P w=.ok a.isNone w:=yR w 9999 t e a l c h
theorem Ops.eqNilS {S:World->Prop} {T':TypeId} {a:Option Addr} {k cap:Nat} (J:P.underlying T=some (.slice e)) (V:ev E x=some (.slice a k cap)) (D:ev E y=some (.slice none 0 0)) (O:Nat.blt d n.sz=true) (Z:fresh E d=true)
  (U:Ops P ops l n ((d,.bool a.isNone) :: E) S Q):Ops P ops (⟨some d,.binOp .eql T x y T',ty,pos,af,none⟩ :: l) n E S Q:=
 Ops.val rfl rfl (λ_ w h _=>by
  have W:(eqGuard .eql T x y (.slice a k cap) (.slice none 0 0)).run P w=.ok () w:=by unfold eqGuard; rfl
  simp only[execOp,h.eval V,h.eval D,Sem.run_bind,W,Result.andThen_ok,binOp];simp[Ac2 w T e a k cap J]) O Z U
end
variable {w0 w:World} {M:Nat→Prop} {I0 I:IH} {m m':List HA}
variable {P:Program} {n:FrK} {E:DH} {Q:Exit→Act→World→Prop} {ops:Array Oper} {l:List Oper}
variable {d ty:Nat} {pos:String} {af:Array Edge} {T e:TypeId} {x y z:Operand}
variable {α:Type} {El:EE α} {xs ys:List α} {a:Option Addr} {cap:Nat}
/-! ### Elements of own slices that lead on -/
variable {T':TypeId} {m2:List HA} {sT:TypeId} {zc:Value}
theorem OwnSl.els {b:Nat} (h:Sym w0 M I0 I m w) (W:Del m (OwnSl El T' (some ⟨b,0,none⟩) cap xs) m') {i:Nat} {v:α} (hi:xs[i]? = some v) :
   ∃ cs,El.rep I cs v∧∀ j u,cs[j]? = some u->w.cell? ⟨b,i*El.sz+j,none⟩=some u:=by
 have⟨_,V,hk⟩:=(h.del W).get;rcases V with⟨D,_⟩ | ⟨b',c,D,U,h3,h4,O⟩
 . cases D
 . cases D;have⟨cs,J,g2⟩:=O i v hi;exact⟨cs,J,λj u Z=>by rw[NN (hk _ _ U)]; exact g2 j u Z⟩
theorem Ops.loEW {b o i U:Nat} {v:α} (hT:∀ w,(isAgg T).run P w=.ok true w) (hS:∀ w,(sizeOf T).run P w=.ok U w) (hA:Del m (OwnSl El T' (some ⟨b,0,none⟩) cap xs) m') (hi:xs[i]? = some v)
  (hx:ev E x=some (.pointer (some ⟨b,o,none⟩))) (O:o=i*El.sz) (hl:El.sz=U) (hb:Nat.blt d n.sz=true) (W:fresh E d=true) (k:∀ cs,El.rep I cs v->Ops P ops l n ((d,.agg cs.toArray) :: E) (Sym w0 M I0 I m) Q) :
  Ops P ops (⟨some d,.load T x,ty,pos,af,none⟩ :: l) n E (Sym w0 M I0 I m) Q:=
 Ops.valx (λu w'=>(∃ cs,u=.agg cs.toArray∧El.rep I cs v)∧Sym w0 M I0 I m w') rfl rfl (λc w V D=>by subst O;have⟨cs,h,g2⟩:=OwnSl.els D hA hi;refine⟨.agg cs.toArray,w,?_,⟨cs,rfl,h⟩,D⟩;simp[execOp,V.eval hx,LN (P:=P) hT hS (El.len h |>.trans hl) (λZ v' J=>g2 Z v' J)]) hb W (λu c w O ⟨⟨cs,hu,h⟩,D⟩=>by subst hu; exact k cs h c w O D)
def cI (a:Option Addr) (cap L s:Nat):Option Addr:=if cap=L then a else a.map (·.add (L*s))
theorem OwnSl.take {k:IH} (h:(OwnSl El T a cap xs).holds I k) (H:Nat):(OwnSl El T a cap (xs.take H)).holds I k:=by
 rcases h with⟨D,J,O⟩ | ⟨b,c,D,J,O,U,V⟩
 . exact .inl ⟨D,by rw[J]; simp,O⟩
 . refine .inr ⟨b,c,D,J,by simp; omega,U,λi x _=>V i x ?_⟩;grind
theorem Sym.takeSl (h:Sym w0 M I0 I m w) {H:Nat} (D:At m (OwnSl El T a cap xs) m' (OwnSl El T a cap (xs.take H))):Sym w0 M I0 I m' w:=
 Sym.reAt D h λ_ J=>J.weaken λ_ hk=>OwnSl.take hk H
theorem Ops.takeSl (H:Nat) (D:At m (OwnSl El T a cap xs) m' (OwnSl El T a cap (xs.take H))) (k:Ops P ops l n E (Sym w0 M I0 I m') Q):Ops P ops l n E (Sym w0 M I0 I m) Q:=Ops.pre (λ_ h=>h.takeSl D) k
theorem pQ (a:Option Addr) (cap s:Nat):cI a cap 0 s=a:=by
 unfold cI;split
 . rfl
 . cases a with
   | none=>rfl
   | some p=>simp only[AhI,AeH,Addr.add]; split <;> simp_all
theorem Ops.ownCap (J:Del m (OwnSl El T a cap xs) m') (k:xs.length<=cap->Ops P ops l n E (Sym w0 M I0 I m) Q):Ops P ops l n E (Sym w0 M I0 I m) Q:=by
 intro c w U h;refine k ?_ c w U h;have⟨_,D,_⟩:=(h.del J).get;rcases D with⟨_,V,O⟩ | ⟨b,_,_,_,O,_⟩
 all_goals grind
theorem Cod.ownCap {c:Code} (J:Del m (OwnSl El T a cap xs) m') (k:xs.length<=cap->Cod P c n E (Sym w0 M I0 I m) Q):Cod P c n E (Sym w0 M I0 I m) Q:=by
 intro c w U h;refine k ?_ c w U h;have⟨_,D,_⟩:=(h.del J).get;rcases D with⟨_,V,O⟩ | ⟨b,_,_,_,O,_⟩
 all_goals grind
theorem Ops.sliceOm {S:World->Prop} {lo hi mx:Option Operand} {q O h:IntKind} {i j t:Int} {k s:Nat} (hT:P.underlying T=some (.slice e)) (hs:∀ w,(sizeOf e).run P w=.ok s w) (hx:ev E x=some (.slice a k cap))
   (Z:oev E lo=some (some (.int q i))) (hh:oev E hi=some (some (.int O j))) (hm:oev E mx=some (some (.int h t))) (h0:0<=i) (h1:i<=j) (h2:j<=t) (h3:t<=cap) (hb:Nat.blt d n.sz=true) (W:fresh E d=true)
   (k':∀ v,Ops P ops l n ((d,v) :: E) S Q):Ops P ops (⟨some d,.slice T x lo hi mx,ty,pos,af,none⟩ :: l) n E S Q:=by
 have J:∀ w,(Instr.sliceBounds true k cap (some (.int q i)) (some (.int O j)) (some (.int h t))).run P w=.ok (i.toNat,j.toNat,t.toNat) w:=by
   intro w;have g0:0<=t:=by omega
   have U:(0:Int)<=j:=by omega
   have g2:j<=max t 0:=by omega
   have g3:i<=max j 0:=by omega
   simp[Instr.sliceBounds,Instr.sliceBound,asIntOf,h0,g0,h3,U,g2,g3]
 refine Ops.valx (λ_ w'=>S w') rfl rfl (λ_ w D V=>⟨.slice (if t.toNat=i.toNat then a else a.map (·.add (i.toNat*s))) (j.toNat - i.toNat) (t.toNat - i.toNat),w,?_,V⟩) hb W (λv=>k' v)
 . simp only[execOp,D.eval hx,OW D Z,OW D hh,OW D hm,Instr.sliceAt,Sem.run_bind,run_underlying hT,Result.andThen_ok,Instr.slice,J,hs,Sem.run_pure]
theorem Ops.sliceO {lo hi:Option Operand} {V U:Option Value} {L H k s:Nat} (hT:P.underlying T=some (.slice e)) (hs:∀ w,(sizeOf e).run P w=.ok s w) (hx:ev E x=some (.slice a k cap)) (hk:k=xs.length)
  (hA:Del m (OwnSl El T' a cap xs) m') (hl:oev E lo=some V) (hh:oev E hi=some U) (J:V=none∧L=0∨∃ q i,V=some (.int q i)∧0<=i∧i.toNat=L)
  (D:U=none∧H=k∨∃ q i,U=some (.int q i)∧0<=i∧i.toNat=H) (Z:L<=H) (W:H<=xs.length) (hb:Nat.blt d n.sz=true) (hf:fresh E d=true)
  (k':Ops P ops l n ((d,.slice (cI a cap L s) (H - L) (cap - L)) :: E) (Sym w0 M I0 I m) Q) :
  Ops P ops (⟨some d,.slice T x lo hi none,ty,pos,af,none⟩ :: l) n E (Sym w0 M I0 I m) Q:=by
 subst hk;refine Ops.val rfl rfl (λ_ w O h=>?_) hb hf k';have⟨_,ha,_⟩:=(h.del hA).get
 have hc:xs.length<=cap:=by
  rcases ha with⟨_,W,h3⟩ | ⟨b,_,_,_,h3,_⟩
  all_goals grind
 have hr:=uR (P:=P) (a:=a) hT hs Z W hc J D w;simp only[execOp,O.eval hx,OW O hl,OW O hh,AjR,hr,Sem.run_bind,Sem.run_pure,Result.andThen_ok];rfl
theorem Ops.sliceTail {lo hi:Option Operand} {L N k s:Nat} {q W:IntKind} {i j:Int} (hT:P.underlying T=some (.slice e)) (hs:∀ w,(sizeOf e).run P w=.ok s w) (hx:ev E x=some (.slice a k cap))
  (hl:oev E lo=some (some (.int q i))) (hh:oev E hi=some (some (.int W j))) (D:0<=i) (U:i.toNat=L) (J:0<=j) (O:j.toNat=N) (h1:L<=N) (h2:N<=cap) (hb:Nat.blt d n.sz=true) (hf:fresh E d=true) {S:World->Prop}
  (k':Ops P ops l n ((d,.slice (cI a cap L s) (N - L) (cap - L)) :: E) S Q) :
  Ops P ops (⟨some d,.slice T x lo hi none,ty,pos,af,none⟩ :: l) n E S Q:=by
 refine Ops.val rfl rfl (λ_ w V _=>?_) hb hf k'
 have h:(Instr.sliceBounds true k cap (some (.int q i)) (some (.int W j)) none).run P w=.ok (L,N,cap) w:=by
  have Z:j<=(cap:Int):=by omega
  have g2:i<=(N:Int):=by omega
  simp[Instr.sliceBounds,Instr.sliceBound,asIntOf,D,J,Z,O,g2,U]
 simp only[execOp,V.eval hx,OW V hl,OW V hh,AjR,Instr.sliceAt,Sem.run_bind,run_underlying hT,Result.andThen_ok,Instr.slice,h,hs,Sem.run_pure];rfl
section
variable {enc:α→List Value} {s:Nat} {he:∀ x,(enc x).length=s∧OV (enc x)=true}
theorem Sym.appendDel {ty':TypeId} {r:List HA} {B:Nat} {i:TypeInfo} (h:Sym w0 M I0 I (OwnSl (LP s enc he) e a cap xs :: r) w)
   (hT:P.underlying sT=some (.slice e)) (hi:P.info? e=some i) (c1:i.size=s) (hB:i.bytes=B) (hz:i.zero=some zc) (f0:zc.cells.size=s) {L H:Nat} (h1:L<=H) (h2:H<=xs.length) :
   ∃ w',(Builtin.append_ #[sT,sT] ty' #[.slice a L cap,.slice (cI a cap H s) (xs.length - H) (cap - H)]).run P w=.ok (.slice a (xs.take L++xs.drop H).length cap) w'∧Sym w0 M I0 I (OwnSl (LP s enc he) e a cap (xs.take L++xs.drop H) :: r) w':=by
 have⟨k1,ha,d2⟩:=h.get
 have hc:xs.length<=cap:=by
   rcases ha with⟨_,h2,h3⟩ | ⟨b,_,_,_,h3,_⟩
   all_goals grind
 have hR:RepSl (LP s enc he) (hp w) a cap xs:=Ap9 ⟨k1,(OwnSl (LP s enc he) e a cap xs).mono h.imm (IH.le.refl _) ha,d2⟩;have b1:=hR.slice h2 (Z0 _);rw[RV] at b1;have d8:Sym w (λb=>(λ_=>none:IH) b≠none) (hp w) (hp w) [] w:=Fun.start (IH.le.refl _) trivial (λ_ _ x=>nomatch x) (λ_=>.inr rfl);have⟨_,src,O,d5⟩:=Src.imm (P:=P) (m:=[]) (w0:=w) (M:=λb=>(λ_=>none:IH) b≠none) (I0:=hp w) (k:=xs.length - H) b1 (by simp);have a6:(xs.drop H).length=xs.length - H:=by simp
 have e6:RepCs (LP s enc he) I src (xs.drop H):=⟨O.1,O.2.1,O.2.2⟩;have a2:(xs.take L).length=L:=by grind
 have D:(xs.take L).length+(xs.drop H).length<=cap:=by rw[a2,a6]; omega
 have c0:Sym w0 M I0 I (OwnSl (LP s enc he) e a cap (xs.take L) :: r) w:=h.weaken λ_ hk=>OwnSl.take hk L;have⟨_,_,_⟩:=c0.get;have e5:=d5 w d8
 -- in place
 rcases ha with⟨g1,g2,U⟩ | ⟨b,c,g1,g2,U,W,g5⟩
 . subst g1 g2 U;have hL:L=0:=by simp at h2; omega
   have hH:H=0:=by simpa using h2
   subst hL hH;refine⟨w,?_,?_⟩
   . have:=NO (P:=P) (w:=w) (w':=w) (ty':=ty') (a:=none) (cap:=0) (k:=0) (kv:=0) (cv:=0) (bv:=none) (src:=#[]) (s:=s) hT hT (λw=>by simp[sizeOf,typeInfo,hi,c1]) (by omega) (by simp[Builtin.firstCells]) (λp hp=>by cases hp) (λ_=>rfl);simpa[cI] using this
   . simpa using h
 . subst g1;have d7:∀ w,(sizeOf e).run P w=.ok s w:=λw=>by simp[sizeOf,typeInfo,hi,c1]
   have⟨hb,e2,hn,q,⟨q1,q2,hd',hl1,hl2,V,hs'⟩,hkk,hdj,hm⟩:=c0;rcases V with⟨a7,_⟩ | ⟨b',J,a7,c2,e7,a8,d0⟩
   . cases a7
   cases a7;have a9:Sym w0 M I0 I (Fw.pto b (.cells J e (0,0)) :: r) w:=⟨hb,e2,hn,q,⟨q1,q2,hd',hl1,hl2,c2,hs'⟩,hkk,hdj,hm⟩;have e4:L*s+(xs.drop H).length*s<=cap*s:=by rw[<-XT]; exact uM _ (by rw[a2] at D; exact D)
   have d6:src.length=(xs.drop H).length*s:=e6.1;have hr:=run_storeCells_at (P:=P) b (L*s) e src 0 J w a9.pto (by rw[d6]; show _<=J.size; rw[a8]; exact e4) (XU O.2.2);have e1:(⟨b,0,none⟩:Addr).add (L*s)=⟨b,L*s,none⟩:=by unfold Addr.add; split <;> simp_all
   have b0:=e5 w rfl;rw[a6] at b0;refine⟨w.setRow b (J.toList.take (L*s+0)++src++J.toList.drop (L*s+0+src.length)).toArray,?_,?_⟩
   . have:=NO (P:=P) (w:=w) (ty':=ty') (a:=some ⟨b,0,none⟩) (cap:=cap) (k:=L) (kv:=xs.length - H) (cv:=cap - H) (bv:=cI (some ⟨b,0,none⟩) cap H s) (src:=src.toArray) (s:=s) hT hT d7 (by rw[a2,a6] at D; exact D) b0 (λp hp=>by cases hp; rw[e1]; exact hr) (λh=>by cases h);grind
   . have d9:=a9.upd (o':=.cells (J.toList.take (L*s+0)++src++J.toList.drop (L*s+0+src.length)).toArray e (0,0)) (w':=w.setRow b _) rfl rfl rfl rfl (by simp[World.setRow]) (λq V=>Fw.setRow_other V) (setRow_heap w b _ _ e _ a9.pto);refine d9.weaken λq V=>.inr ⟨b,_,rfl,V,by rw[bL]; exact D,?_,?_⟩
     . have a5:J.size=cap*s:=a8;grind
     . intro Z x2 a4;simp only[gM,Ae6];have a5:J.size=cap*s:=a8;rcases Z1 Z L with h6 | h6
       . rw[lN (by omega)] at a4;have⟨cs,U,W⟩:=d0 Z x2 a4;refine⟨cs,U,λj u hj=>?_⟩
         have e9:j<s:=by have h0:cs.length=s:=(LP s enc he).len U;grind
         have d4:(Z+1)*s<=L*s:=uM _ h6;rw[XT,AbV] at d4;have:=W j u hj;rw[<-At5] at this;have f1:J.toList[Z*s+j]? = some u:=this;have d3:L*s<=J.toList.length:=by simp[a5]; omega
         show(_++_++_)[Z*s+j]? = _;grind
       . rw[yL (by omega)] at a4;have⟨cs,U,W⟩:=O.2.1 _ x2 a4;refine⟨cs,U,λj u hj=>?_⟩;have h7:=W j u hj;have h8:=(List.getElem?_eq_some_iff.1 h7).1;rw[a2] at h7 h8;have e3:Z*s=L*s+(Z - L)*s:=by rw[<-XT]; congr 1; omega
         have d1:src[(Z - L)*s+j]? = some u:=h7;have e8:(Z - L)*s+j<src.length:=h8;have d3:L*s<=J.toList.length:=by simp[a5]; omega
         show(_++_++_)[Z*s+j]? = _;rw[lL,yL (by rw[VK]; omega),lN (by rw[VK]; omega),<-d1];grind
theorem Ops.appendDel {i:TypeInfo} {h:Array TypeId} {L H:Nat} (B:Nat) (hA:At m (OwnSl (LP s enc he) e a cap xs) m' (OwnSl (LP s enc he) e a cap (xs.take L++xs.drop H))) (hT:P.underlying sT=some (.slice e)) (hi:P.info? e=some i)
  (a2:i.size=s) (hB:i.bytes=B) (hz:i.zero=some zc) (a8:zc.cells.size=s) (D:h = #[sT,sT]) {a1:Option Addr} {W J Z:Nat} (hx:ev E x=some (.slice a1 W J)) (hy:ev E y=some (.slice (cI a cap H s) (Z - H) (cap - H)))
  (a6:a1=a) (a7:W=L) (a4:J=cap) (U:Z=xs.length) (h1:L<=H) (h2:H<=xs.length) (hb:Nat.blt d n.sz=true) (hf:fresh E d=true)
  (k':Ops P ops l n ((d,.slice a (xs.take L++xs.drop H).length cap) :: E) (Sym w0 M I0 I m') Q) :
  Ops P ops (⟨some d,.call ⟨.builtin .append,#[x,y],h⟩,ty,pos,af,none⟩ :: l) n E (Sym w0 M I0 I m) Q:=
 Ops.valx (λv w'=>v=.slice a (xs.take L++xs.drop H).length cap∧Sym w0 M I0 I m' w') rfl rfl
  (λc w O V=>by
   subst a6 a7 a4 U;have⟨_,g2,g3⟩:=hA.del;have⟨w',hr,a5⟩:=Sym.appendDel (P:=P) (ty':=ty) (V.del g2) hT hi a2 hB hz a8 h1 h2;subst D;refine⟨_,w',?_,rfl,a5.undel g3⟩;have e:(#[x,y].map c.eval) = #[.slice a1 W J,.slice (cI a1 J H s) (xs.length - H) (J - H)]:=by simp[O.eval hx,O.eval hy]
   simp only[execOp,resolve,e,Sem.run_bind,Sem.run_pure,Result.andThen_ok,invoke,builtin,hr]) hb hf
  (λv c w O ⟨hv,V⟩=>by subst hv; exact k' c w O V)
end
theorem Ops.clearTail {i:TypeInfo} {a8:Array TypeId} {L N:Nat} (hA:Del m (OwnSl El e a cap xs) m') (hT:P.underlying sT=some (.slice e)) (hi:P.info? e=some i)
    (d7:i.size=El.sz) (hz:i.zero=some zc) (d1:zc.cells.size=El.sz) (d0:OV zc.cells.toList=true) (a4:a8[0]? = some sT) (hx:ev E x=some (.slice (cI a cap L El.sz) (N - L) (cap - L)))
    (h1:L=xs.length) (h2:N<=cap) (k':Ops P ops l n E (Sym w0 M I0 I m) Q) :
    Ops P ops (⟨none,.call ⟨.builtin .clear,#[x],a8⟩,ty,pos,af,none⟩ :: l) n E (Sym w0 M I0 I m) Q:=
  Ops.val0 rfl rfl (λc w ho hs=>by
    have e0:(#[x].map c.eval) = #[.slice (cI a cap L El.sz) (N - L) (cap - L)]:=by simp[ho.eval hx]
    have d2:∀ w,(zeroValue e).run P w=.ok zc w:=λw=>by simp[zeroValue,typeInfo,hi,hz]
    have c1:=hs.del hA;have⟨hb,d3,hn,q,⟨q1,q2,hd',hl1,hl2,O,hs'⟩,hkk,hdj,hm⟩:=c1;rcases O with⟨U,V,W⟩ | ⟨b,J,U,V,W,Z,g5⟩
    . subst U V W;refine⟨.tuple #[],w,?_,hs⟩;have hN:N - L=0:=by omega
      have D:cI none 0 L El.sz=none:=by unfold cI; split <;> rfl
      simp[execOp,resolve,e0,invoke,builtin,Builtin.clear_,a4,run_underlying hT,D]
    . subst U;by_cases hN:N - L=0
      . refine⟨.tuple #[],w,?_,hs⟩;rw[hN] at e0;have D:∃ ad,cI (some ⟨b,0,none⟩) cap L El.sz=some ad:=by unfold cI; split <;> exact⟨_,rfl⟩
        have⟨ad,D⟩:=D;rw[D] at e0;simp[execOp,resolve,e0,invoke,builtin,Builtin.clear_,a4,run_underlying hT]
      . have D:cI (some ⟨b,0,none⟩) cap L El.sz=some ⟨b,L*El.sz,none⟩:=by unfold cI;rw[if_neg (by omega)];simp only[AhI,Addr.add]; split <;> simp_all
        rw[D] at e0;have a2:Sym w0 M I0 I (Fw.pto b (.cells J e (0,0)) :: m') w:=⟨hb,d3,hn,q,⟨q1,q2,hd',hl1,hl2,V,hs'⟩,hkk,hdj,hm⟩;have d8:L*El.sz+(N - L)*El.sz<=cap*El.sz:=by rw[<-XT]; exact uM _ (by omega)
        have a7:(Builtin.zeroCells zc.cells (N - L)).toList.length=(N - L)*El.sz:=by simp[AbX _ d1]
        have a9:∀ v∈(Builtin.zeroCells zc.cells (N - L)).toList,one v=true:=by
          intro v D;simp only[Builtin.zeroCells,Array.toList_map,gL,Array.toList_range,AjU] at D;obtain⟨i',b0,rfl⟩:=D
          have d4 : 0 < zc.cells.size := by
            rcases jF zc.cells.size with h | h; · simp[h] at b0
            . exact h
          have b1:i' % zc.cells.size<zc.cells.size:=rH _ d4;rw[getElem!_pos zc.cells _ b1];exact XU d0 _ (by simp)
        have hr:=run_storeCells_at (P:=P) b (L*El.sz) e (Builtin.zeroCells zc.cells (N - L)).toList 0 J w a2.pto (by rw[a7,Z]; omega) a9;refine⟨.tuple #[],w.setRow b (J.toList.take (L*El.sz+0)++(Builtin.zeroCells zc.cells (N - L)).toList++J.toList.drop (L*El.sz+0+(Builtin.zeroCells zc.cells (N - L)).toList.length)).toArray,?_,?_⟩
        . have a5:(storeCells ⟨b,L*El.sz,none⟩ (Builtin.zeroCells zc.cells (N - L)).toList).run P w=.ok () (w.setRow b (J.toList.take (L*El.sz+0)++(Builtin.zeroCells zc.cells (N - L)).toList++J.toList.drop (L*El.sz+0+(Builtin.zeroCells zc.cells (N - L)).toList.length)).toArray):=hr
          cases hk:N - L with
          | zero=>exact absurd hk hN
          | succ k=>
            rw[hk] at a5 e0;simp only[execOp,resolve,e0,invoke,builtin,Builtin.clear_,Sem.run_bind,Sem.run_pure,Result.andThen_ok,a4,Ae6,Ao9,run_underlying hT,d2,a5]
        . have c2:=a2.upd (o':=.cells (J.toList.take (L*El.sz+0)++(Builtin.zeroCells zc.cells (N - L)).toList++J.toList.drop (L*El.sz+0+(Builtin.zeroCells zc.cells (N - L)).toList.length)).toArray e (0,0)) (w':=w.setRow b _) rfl rfl rfl rfl (by simp[World.setRow]) (λq O=>Fw.setRow_other O) (setRow_heap w b _ _ e _ a2.pto);refine(Sym.weaken c2 (B:=OwnSl El e (some ⟨b,0,none⟩) cap xs) λq O=>.inr ⟨b,_,rfl,O,W,?_,?_⟩).undel hA
          . simp only[AoT,bL,VK,AlW,AhF,a7,Z]; omega
          . intro i2 x2 a6;have⟨cs,u1,u2⟩:=g5 i2 x2 a6;refine⟨cs,u1,λj u hj=>?_⟩;have d5:=(List.getElem?_eq_some_iff.1 a6).1;have d6:j<El.sz:=by rw[<-El.len u1]; exact(List.getElem?_eq_some_iff.1 hj).1
            have c0:(i2+1)*El.sz<=L*El.sz:=uM _ (by omega);rw[XT,AbV] at c0;have:=u2 j u hj;rw[<-At5] at this;simp only[gM,Ae6];rw[lL,lN (by rw[VK]; simp only[AhF,Z]; omega),yN,if_pos (by omega),this]) k'
theorem Ops.sliceT {hi:Option Operand} {H k s:Nat} {q:IntKind} {i:Int} (U:P.underlying T=some (.slice e)) (W:∀ w,(sizeOf e).run P w=.ok s w) (hx:ev E x=some (.slice a k cap)) (hk:k=xs.length)
  (V:Del m (OwnSl El T' a cap xs) m') (a2:At m (OwnSl El T' a cap xs) m2 (OwnSl El T' a cap (xs.take H))) (hh:oev E hi=some (some (.int q i))) (O:0<=i) (h:i.toNat=H) (D:H<=xs.length)
  (Z:Nat.blt d n.sz=true) (J:fresh E d=true) (k':Ops P ops l n ((d,.slice a (xs.take H).length cap) :: E) (Sym w0 M I0 I m2) Q) :
  Ops P ops (⟨some d,.slice T x none hi none,ty,pos,af,none⟩ :: l) n E (Sym w0 M I0 I m) Q:=by
 refine Ops.sliceO (L:=0) (H:=H) (s:=s) U W hx hk V rfl hh (.inl ⟨rfl,rfl⟩) (.inr ⟨_,_,rfl,O,h⟩) (Aa9 _) D Z J ?_;grind[pQ,Ops.takeSl]
@[reducible] def lZ (sz:Nat):Type:={cs:List Value // cs.length=sz∧OV cs=true}
@[reducible] def AeS (sz:Nat):EE (lZ sz):=LP sz Subtype.val λx=>x.2
structure RepR (El:EE α) (I:IH) (css:List (lZ El.sz)) (xs:List α):Prop where
 len:css.length=xs.length
 all:∀ (i:Nat) (x:α),xs[i]? = some x→∃ c:lZ El.sz,css[i]? = some c∧El.rep I c.1 x
theorem RepR.mono {J:IH} {D:List (lZ El.sz)} (h:RepR El I D xs) (O:I.le J):RepR El J D xs:=⟨h.len,λi x V=>let ⟨c,U,W⟩:=h.all i x V; ⟨c,U,El.mono O W⟩⟩
theorem RepR.get {D:List (lZ El.sz)} (h:RepR El I D xs) {i:Nat} {x:α} (O:xs[i]? = some x):∃ c U,D[i]? = some ⟨c,U⟩∧El.rep I c x:=
 let ⟨c,J,V⟩:=h.all i x O; ⟨c.1,c.2,J,V⟩
theorem RepR.set {D:List (lZ El.sz)} (h:RepR El I D xs) (i:Nat) {x:α} {cs:List Value} (U:El.rep I cs x) (hp:cs.length=El.sz∧OV cs=true):RepR El I (D.set i ⟨cs,hp⟩) (xs.set i x):=by
 refine⟨by simp only[cB]; exact h.len,λj y J=>?_⟩;by_cases e:i=j
 . subst e;have O:i<xs.length:=by grind
   rw[AlU O] at J; cases J;exact⟨⟨cs,hp⟩,AlU (by have:=h.len; omega),U⟩
 . rw[AhE e] at J;rw[AhE e];exact h.all j y J
theorem AxP {sz:Nat} {R:Nat->α->lZ sz->Prop}:∀ {xs:List α},(∀ (i:Nat) (x:α),xs[i]? = some x->∃ c,R i x c)->∃ D:List (lZ sz),D.length=xs.length∧∀ (i:Nat) (x:α),xs[i]? = some x->∃ c,D[i]? = some c∧R i x c:=by
 intro xs
 induction xs generalizing R with
 | nil=>simp_all
 | cons V xs U=>
  intro h;have⟨W,_⟩:=h 0 V rfl;have⟨D,O,_⟩:=U (R:=λi=>R (i+1)) λi x J=>h (i+1) x (by simpa using J);refine⟨W :: D,by simp[O],λi x J=>?_⟩;grind
theorem Sym.openS (a2:Sym w0 M I0 I (OwnSl El T a cap xs :: m) w):∃ D:List (lZ El.sz),RepR El I D xs∧Sym w0 M I0 I (OwnSl (AeS El.sz) T a cap D :: m) w:=by
 obtain ⟨hb,hi,hn,k,⟨h1,h2,hd',hl1,hl2,ha,hs'⟩,hk,hdj,hm⟩:=a2
 rcases ha with ⟨V,h,g3⟩ | ⟨b,J,V,h,g3,g4,g5⟩
 · subst h
   exact ⟨[],⟨rfl,fun i x O=>by simp at O⟩,hb,hi,hn,k,⟨h1,h2,hd',hl1,hl2,.inl ⟨V,rfl,g3⟩,hs'⟩,hk,hdj,hm⟩
 · obtain ⟨D,e1,e2⟩:=AxP (sz:=El.sz) (R:=fun i x c=>El.rep I c.1 x∧∀ (j:Nat) (v:Value),c.1[j]? = some v→J[i*El.sz+j]? = some v) fun i x O=>by
    obtain ⟨cs,W,f2⟩:=g5 i x O
    exact ⟨⟨cs,El.len W,El.one W⟩,W,f2⟩
   refine ⟨D,⟨e1,fun i x O=>let ⟨c,U,Z⟩:=e2 i x O; ⟨c,U,Z.1⟩⟩,hb,hi,hn,k,⟨h1,h2,hd',hl1,hl2,.inr ⟨b,J,V,h,by omega,g4,fun i c hc=>?_⟩,hs'⟩,hk,hdj,hm⟩
   have a4:=(List.getElem?_eq_some_iff.1 hc).1
   obtain ⟨_,U,Z⟩:=e2 i (xs[i]'(by omega)) (gJ _)
   rw [hc] at U; cases U
   exact ⟨c.1,rfl,Z.2⟩
theorem Sym.closeS {D:List (lZ El.sz)} (U:RepR El I D xs) (h:Sym w0 M I0 I (OwnSl (AeS El.sz) T a cap D :: m) w):Sym w0 M I0 I (OwnSl El T a cap xs :: m) w:=by
 have⟨hb,hi,hn,k,⟨h1,h2,hd',hl1,hl2,ha,hs'⟩,hk,hdj,hm⟩:=h;refine⟨hb,hi,hn,k,⟨h1,h2,hd',hl1,hl2,?_,hs'⟩,hk,hdj,hm⟩;rcases ha with⟨J,V,W⟩ | ⟨b,O,J,V,W,Z,g5⟩
 . have:=U.len; rw[V] at this;exact .inl ⟨J,AvY this.symm,W⟩
 . refine .inr ⟨b,O,J,V,by have:=U.len; omega,Z,λi x hx=>?_⟩;have⟨c,q1,q2⟩:=U.all i x hx;have⟨_,q3,q4⟩:=g5 i c q1;cases q3;exact⟨c.1,q2,q4⟩
theorem Ops.openS (J:Del m (OwnSl El T a cap xs) m2) (k:∀ h:List (lZ El.sz),RepR El I h xs->Ops P ops l n E (Sym w0 M I0 I (OwnSl (AeS El.sz) T a cap h :: m2)) Q):Ops P ops l n E (Sym w0 M I0 I m) Q:=by intro c w V O;have⟨h,D,U⟩:=(O.del J).openS;exact k h D c w V U
theorem Cod.openS {c:Code} (J:Del m (OwnSl El T a cap xs) m2) (k:∀ h:List (lZ El.sz),RepR El I h xs->Cod P c n E (Sym w0 M I0 I (OwnSl (AeS El.sz) T a cap h :: m2)) Q):Cod P c n E (Sym w0 M I0 I m) Q:=by intro c w V O;have⟨h,D,U⟩:=(O.del J).openS;exact k h D c w V U
theorem Ops.closeS {h:List (lZ El.sz)} (D:Del m (OwnSl (AeS El.sz) T a cap h) m2) (O:RepR El I h xs) (k:Ops P ops l n E (Sym w0 M I0 I (OwnSl El T a cap xs :: m2)) Q):Ops P ops l n E (Sym w0 M I0 I m) Q:=
 Ops.pre (λ_ J=>(J.del D).closeS O) k
end Go.Fw
