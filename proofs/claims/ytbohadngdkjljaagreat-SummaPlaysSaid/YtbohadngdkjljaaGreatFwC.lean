/- The engine. -/
import Derived.Test.YtbohadngdkjljaaGreatFwB
import Derived.Laws.CopyRow
namespace Go.Fw
open Go Go.RowKit
variable {w0 w:World} {M:Nat→Prop} {I0 I:IH} {m m':List HA}
variable {P:Program} {n:FrK} {E:DA} {Q:Exit→Act→World→Prop} {ops:Array Oper} {l:List Oper}
variable {d ty:Nat} {pos:String} {af:Array Edge} {T:TypeId} {x y:Operand}
/-! ### Cells by lists -/
variable {T':TypeId} {cs':List Value} {fz:Nat×Nat} {fs:Array Field}
inductive Cut:List Value→Nat→List Value→Prop
 | nil {cs:List Value}:Cut cs 0 []
 | t {c:Value} {cs vs:List Value}:Cut cs 0 vs→Cut (c :: cs) 0 (c :: vs)
 | s {c:Value} {cs vs:List Value} {k:Nat}:Cut cs k vs→Cut (c :: cs) (k+1) vs
theorem Cut.get {cs vs:List Value} {k:Nat} (h:Cut cs k vs):∀ j v,vs[j]? = some v→cs[k+j]? = some v:=by
 induction h with
 | nil=>intro j v h; simp at h
 | t h G=>
  intro j v D
  cases j with
  | zero=>simpa using D
  | succ j=>have:=G j v (by simpa using D); simpa [Nat.add_comm,Nat.add_left_comm] using this
 | s h G=>intro j v D; have:=G j v D; rw [Nat.add_right_comm]; simpa using this
inductive PutC:List Value→Nat→List Value→List Value→Prop
 | nil {cs:List Value}:PutC cs 0 [] cs
 | t {c v:Value} {cs vs cs':List Value}:PutC cs 0 vs cs'→PutC (c :: cs) 0 (v :: vs) (v :: cs')
 | s {c:Value} {cs vs cs':List Value} {k:Nat}:PutC cs k vs cs'→PutC (c :: cs) (k+1) vs (c :: cs')
theorem PutC.eq {cs vs:List Value} {k:Nat} (h:PutC cs k vs cs'):cs'=cs.take k++vs++cs.drop (k+vs.length)∧k+vs.length≤cs.length:=by
 induction h with
 | nil=>simp
 | t h D=>obtain ⟨D,G⟩:=D; simp at D G ⊢; exact ⟨by simpa using D,G⟩
 | s h D=>
  obtain ⟨D,G⟩:=D
  refine ⟨?_,by simp at G ⊢; omega⟩
  rw [D,Nat.add_right_comm]; simp
def one (v:Value):Bool:=v.oneCell'
def LQ:List Value→Bool
 | []=>true
 | v :: vs=>one v && LQ vs
theorem SN {vs:List Value} (h:LQ vs=true):∀ v∈vs,v.oneCell'=true:=by
 induction vs with
 | nil=>intro v D; cases D
 | cons u vs G=>
  simp only [LQ,Bool.and_eq_true] at h
  intro v D
  cases D with
  | head=>exact h.1
  | tail _ D=>exact G h.2 v D
theorem O9 {b off:Nat} {v:Value} (D:∀ w,(isAgg T).run P w=.ok false w) (h:w.cell? ⟨b,off,none⟩=some v):(Instr.loadAt T (.pointer (some ⟨b,off,none⟩))).run P w=.ok v w:=by
 simp [Instr.loadAt,Instr.sureAddr,loadVar,D,h]
theorem JG {b off s:Nat} {vs:List Value} (D:∀ w,(isAgg T).run P w=.ok true w) (O:∀ w,(sizeOf T).run P w=.ok s w) (U:vs.length=s) (G:∀ j v,vs[j]? = some v→w.cell? ⟨b,off+j,none⟩=some v) :
  (Instr.loadAt T (.pointer (some ⟨b,off,none⟩))).run P w=.ok (.agg vs.toArray) w:=by
 subst U
 have h:=run_loadCells_list (P:=P) w ⟨b,off,none⟩ vs (fun j v J=>by
  have:=G j v J
  have e:(⟨b,off,none⟩:Addr).add j=⟨b,off+j,none⟩:=by unfold Addr.add; split <;> simp_all
  rw [e]; exact this)
 simp [Instr.loadAt,Instr.sureAddr,loadVar,D,O,h]
theorem L9 {b off:Nat} {cs:Array Value} {t:TypeId} (h:w.heap[b]? = some (.cells cs t fz)):w.cell? ⟨b,off,none⟩=cs[off]?:=by simp [World.cell?,h]
theorem Ops.allocA {z:Array Value} (O:∀ w,(zeroValue T).run P w=.ok (.agg z) w) (D:Nat.blt d n.sz=true) (G:fresh E d=true)
  (k:∀ b,Ops P ops l n ((d,.pointer (some ⟨b,0,none⟩)) :: E) (Sym w0 M I0 I (pto b (.cells z T) :: m)) Q) :
  Ops P ops (⟨some d,.alloc T,ty,pos,af,none⟩ :: l) n E (Sym w0 M I0 I m) Q:=
 Ops.valx (fun v w'=>∃ b,v=.pointer (some ⟨b,0,none⟩)∧Sym w0 M I0 I (pto b (.cells z T) :: m) w') rfl rfl
  (fun a w _ h=>⟨.pointer (some ⟨w.heap.size,0,none⟩),w.alloc (.cells z T),by simp [execOp,Instr.alloc,O,newVar,newRow,Value.cells],_,rfl,h.alloc _⟩) D G
  (fun v a w U ⟨b,J,h⟩=>by subst J; exact k b a w U h)
theorem Ops.alloc1 {z:Value} (V:∀ w,(zeroValue T).run P w=.ok z w) (U:one z=true) (D:Nat.blt d n.sz=true) (G:fresh E d=true)
  (k:∀ b,Ops P ops l n ((d,.pointer (some ⟨b,0,none⟩)) :: E) (Sym w0 M I0 I (pto b (.cells #[z] T) :: m)) Q) :
  Ops P ops (⟨some d,.alloc T,ty,pos,af,none⟩ :: l) n E (Sym w0 M I0 I m) Q:=
 Ops.valx (fun v w'=>∃ b,v=.pointer (some ⟨b,0,none⟩)∧Sym w0 M I0 I (pto b (.cells #[z] T) :: m) w') rfl rfl
  (fun a w _ h=>⟨.pointer (some ⟨w.heap.size,0,none⟩),w.alloc (.cells #[z] T),by
   have J:z.cells = #[z]:=by cases z <;> first | rfl | cases U
   simp [execOp,Instr.alloc,V,newVar,newRow,J],_,rfl,h.alloc _⟩) D G
  (fun v a w W ⟨b,O,h⟩=>by subst O; exact k b a w W h)
theorem Ops.boxA {z:Array Value} (U:ev E x=some (.agg z)) (G:Nat.blt d n.sz=true) (J:fresh E d=true)
  (k:∀ b,Ops P ops l n ((d,.pointer (some ⟨b,0,none⟩)) :: E) (Sym w0 M I0 I (pto b (.cells z T) :: m)) Q) :
  Ops P ops (⟨some d,.box T x,ty,pos,af,none⟩ :: l) n E (Sym w0 M I0 I m) Q:=
 Ops.valx (fun v w'=>∃ b,v=.pointer (some ⟨b,0,none⟩)∧Sym w0 M I0 I (pto b (.cells z T) :: m) w') rfl rfl
  (fun a w D h=>⟨.pointer (some ⟨w.heap.size,0,none⟩),w.alloc (.cells z T),by simp [execOp,Instr.box,D.eval U,newVar,newRow,Value.cells],_,rfl,h.alloc _⟩) G J
  (fun v a w D ⟨b,O,h⟩=>by subst O; exact k b a w D h)
theorem Ops.box1 {z:Value} (V:ev E x=some z) (W:one z=true) (G:Nat.blt d n.sz=true) (J:fresh E d=true)
  (k:∀ b,Ops P ops l n ((d,.pointer (some ⟨b,0,none⟩)) :: E) (Sym w0 M I0 I (pto b (.cells #[z] T) :: m)) Q) :
  Ops P ops (⟨some d,.box T x,ty,pos,af,none⟩ :: l) n E (Sym w0 M I0 I m) Q:=
 Ops.valx (fun v w'=>∃ b,v=.pointer (some ⟨b,0,none⟩)∧Sym w0 M I0 I (pto b (.cells #[z] T) :: m) w') rfl rfl
  (fun a w D h=>⟨.pointer (some ⟨w.heap.size,0,none⟩),w.alloc (.cells #[z] T),by
   have O:z.cells = #[z]:=by cases z <;> first | rfl | cases W
   simp [execOp,Instr.box,D.eval V,newVar,newRow,O],_,rfl,h.alloc _⟩) G J
  (fun v a w D ⟨b,U,h⟩=>by subst U; exact k b a w D h)
theorem Ops.fa {i:Nat} {f:Field} {b off o s:Nat} (D:P.underlying T=some (.struct fs)) (hi:fs[i]? = some f) (G:∀ w,(sizeOf f.type).run P w=.ok (s+1) w)
  (V:ev E x=some (.pointer (some ⟨b,off,none⟩))) (O:off+f.offset=o) {S:World→Prop} (h:Nat.blt d n.sz=true) (U:fresh E d=true) (k:Ops P ops l n ((d,.pointer (some ⟨b,o,none⟩)) :: E) S Q) :
  Ops P ops (⟨some d,.fieldAddr T x i,ty,pos,af,none⟩ :: l) n E S Q:=
 Ops.val rfl rfl (fun a w J _=>by
  have e:(⟨b,off,none⟩:Addr).add f.offset=⟨b,o,none⟩:=by rw [←O]; unfold Addr.add; split <;> simp_all
  simp [execOp,J.eval V,Instr.fieldAt,run_underlying D,hi,Instr.sureAddr,fieldPlace,G,e]) h U k
theorem Ops.load1 {b off:Nat} {cs:List Value} {v:Value} (O:∀ w,(isAgg T).run P w=.ok false w) (V:ev E x=some (.pointer (some ⟨b,off,none⟩)))
  (G:Del m (pto b (.cells cs.toArray T' fz)) m') (U:cs[off]? = some v) (D:Nat.blt d n.sz=true) (J:fresh E d=true) (k:Ops P ops l n ((d,v) :: E) (Sym w0 M I0 I m) Q) :
  Ops P ops (⟨some d,.load T x,ty,pos,af,none⟩ :: l) n E (Sym w0 M I0 I m) Q:=
 Ops.val rfl rfl (fun a w Y W=>by
  have h:=(W.del G).pto
  simp [execOp,Y.eval V,O9 (P:=P) O ((L9 h).trans (by simpa using U))]) D J k
theorem Ops.loadA {b off s:Nat} {cs vs:List Value} (J:∀ w,(isAgg T).run P w=.ok true w) (U:∀ w,(sizeOf T).run P w=.ok s w) (hx:ev E x=some (.pointer (some ⟨b,off,none⟩)))
  (G:Del m (pto b (.cells cs.toArray T' fz)) m') (O:Cut cs off vs) (Z:vs.length=s) (D:Nat.blt d n.sz=true) (Y:fresh E d=true) (k:Ops P ops l n ((d,.agg vs.toArray) :: E) (Sym w0 M I0 I m) Q) :
  Ops P ops (⟨some d,.load T x,ty,pos,af,none⟩ :: l) n E (Sym w0 M I0 I m) Q:=
 Ops.val rfl rfl (fun a w W V=>by
  have h:=(V.del G).pto
  simp [execOp,W.eval hx,JG (P:=P) J U Z (fun j v hj=>(L9 h).trans (by simpa using O.get j v hj))]) D Y k
theorem Ops.loadW {b s:Nat} {cs:List Value} (J:∀ w,(isAgg T).run P w=.ok true w) (O:∀ w,(sizeOf T).run P w=.ok s w) (Z:ev E x=some (.pointer (some ⟨b,0,none⟩)))
  (G:Del m (pto b (.cells cs.toArray T' fz)) m') (Y:cs.length=s) (D:Nat.blt d n.sz=true) (W:fresh E d=true) (k:Ops P ops l n ((d,.agg cs.toArray) :: E) (Sym w0 M I0 I m) Q) :
  Ops P ops (⟨some d,.load T x,ty,pos,af,none⟩ :: l) n E (Sym w0 M I0 I m) Q:=
 Ops.val rfl rfl (fun a w V U=>by
  have h:=(U.del G).pto
  simp [execOp,V.eval Z,JG (P:=P) J O Y (fun j v hj=>(L9 (off:=0+j) h).trans (by rw [Nat.zero_add]; simpa using hj))]) D W k
theorem setRow_other {g i:Nat} {c:Array Value} (h:i≠g):(w.setRow g c).heap[i]? = w.heap[i]?:=by
 simp only [World.setRow,Array.getElem?_modify]
 rw [if_neg (by omega)]
theorem Sym.store {b off:Nat} {cs vs:List Value} (h:Sym w0 M I0 I (Fw.pto b (.cells cs.toArray T' (0,0)) :: m) w) (hp:PutC cs off vs cs') (J:LQ vs=true) :
  ∃ w',(storeCells ⟨b,off,none⟩ vs).run P w=.ok () w'∧Sym w0 M I0 I (Fw.pto b (.cells cs'.toArray T' (0,0)) :: m) w':=by
 obtain ⟨he,G⟩:=hp.eq
 have D:=h.pto
 have O:=run_storeCells_at (P:=P) b off T' vs 0 cs.toArray w D (by simpa using G) (SN J)
 refine ⟨_,O,h.upd rfl rfl rfl rfl (by simp [World.setRow]) (fun k hk=>setRow_other hk) ?_⟩
 rw [setRow_heap w b _ _ T' _ D]
 simp [he]
theorem Sym.reAt {A B:HA} (G:At m A m' B) (h:Sym w0 M I0 I m w) {w':World} (J:∀ r,Sym w0 M I0 I (A :: r) w→Sym w0 M I0 I (B :: r) w'):Sym w0 M I0 I m' w':=by
 obtain ⟨r,O,D⟩:=G.del
 exact (J r (h.del O)).undel D
theorem Ops.storeA {b off s:Nat} {cs vs:List Value} (O:∀ w,(sizeOf T).run P w=.ok s w) (Z:ev E x=some (.pointer (some ⟨b,off,none⟩))) (U:ev E y=some (.agg vs.toArray))
  (G:At m (pto b (.cells cs.toArray T' (0,0))) m' (pto b (.cells cs'.toArray T' (0,0)))) (J:PutC cs off vs cs') (Y:vs.length=s) (h1:LQ vs=true)
  (k:Ops P ops l n E (Sym w0 M I0 I m') Q):Ops P ops (⟨none,.store T x y,ty,pos,af,none⟩ :: l) n E (Sym w0 M I0 I m) Q:=
 Ops.act rfl rfl (fun a w D V=>by
  obtain ⟨r,W,h3⟩:=G.del
  obtain ⟨w',hr,h⟩:=(V.del W).store (P:=P) J h1
  refine ⟨w',?_,h.undel h3⟩
  simp [execOp,D.eval Z,D.eval U,Instr.storeAt,Instr.sureAddr,storeVar,O,Value.cells,Y,hr]) k
theorem Ops.store1 {b off:Nat} {cs:List Value} {v:Value} (V:∀ w,(sizeOf T).run P w=.ok 1 w) (hx:ev E x=some (.pointer (some ⟨b,off,none⟩))) (W:ev E y=some v)
  (O:At m (pto b (.cells cs.toArray T' (0,0))) m' (pto b (.cells cs'.toArray T' (0,0)))) (U:PutC cs off [v] cs') (J:one v=true)
  (k:Ops P ops l n E (Sym w0 M I0 I m') Q):Ops P ops (⟨none,.store T x y,ty,pos,af,none⟩ :: l) n E (Sym w0 M I0 I m) Q:=
 Ops.act rfl rfl (fun a w G Y=>by
  obtain ⟨r,Z,h3⟩:=O.del
  obtain ⟨w',hr,D⟩:=(Y.del Z).store (P:=P) U (by simp [LQ,J])
  refine ⟨w',?_,D.undel h3⟩
  have h:v.cells = #[v]:=by cases v <;> first | rfl | cases J
  simp [execOp,G.eval hx,G.eval W,Instr.storeAt,Instr.sureAddr,storeVar,V,h,hr]) k
def ImC (I:IH) (b off:Nat) (cs:List Value):Prop:=∃ c t fz,I b=some (.cells c t fz)∧∀ j v,cs[j]? = some v→c[off+j]? = some v
theorem ImC.mono {I J:IH} {b off:Nat} {cs:List Value} (h:ImC I b off cs) (D:I.le J):ImC J b off cs:=by
 obtain ⟨c,t,fz,O,G⟩:=h
 exact ⟨c,t,fz,D _ _ O,G⟩
theorem ImC.cell {b off j:Nat} {cs:List Value} {v:Value} (h:ImC I b off cs) (G:Sym w0 M I0 I m w) (O:cs[j]? = some v):w.cell? ⟨b,off+j,none⟩=some v:=by
 obtain ⟨c,t,fz,J,D⟩:=h
 rw [L9 (G.imm _ _ J)]
 exact D j v O
theorem Ops.ld1 {b off o j:Nat} {cs:List Value} {v:Value} (D:∀ w,(isAgg T).run P w=.ok false w) (Y:ImC I b off cs) (W:ev E x=some (.pointer (some ⟨b,o,none⟩))) (U:o=off+j) (G:cs[j]? = some v)
  (h:Nat.blt d n.sz=true) (V:fresh E d=true) (k:Ops P ops l n ((d,v) :: E) (Sym w0 M I0 I m) Q) :
  Ops P ops (⟨some d,.load T x,ty,pos,af,none⟩ :: l) n E (Sym w0 M I0 I m) Q:=
 Ops.val rfl rfl (fun a w O J=>by
  subst U
  simp [execOp,O.eval W,O9 (P:=P) D (Y.cell J G)]) h V k
theorem Ops.ldA {b off o j s:Nat} {cs vs:List Value} (D:∀ w,(isAgg T).run P w=.ok true w) (J:∀ w,(sizeOf T).run P w=.ok s w) (hI:ImC I b off cs) (Z:ev E x=some (.pointer (some ⟨b,o,none⟩)))
  (V:o=off+j) (G:Cut cs j vs) (Y:vs.length=s) (h:Nat.blt d n.sz=true) (W:fresh E d=true) (k:Ops P ops l n ((d,.agg vs.toArray) :: E) (Sym w0 M I0 I m) Q) :
  Ops P ops (⟨some d,.load T x,ty,pos,af,none⟩ :: l) n E (Sym w0 M I0 I m) Q:=
 Ops.val rfl rfl (fun a w U O=>by
  subst V
  simp [execOp,U.eval Z,JG (P:=P) D J Y (fun i v hi=>by rw [Nat.add_assoc]; exact hI.cell O (G.get i v hi))]) h W k
theorem Ops.ldW {b off s:Nat} {cs:List Value} (D:∀ w,(isAgg T).run P w=.ok true w) (G:∀ w,(sizeOf T).run P w=.ok s w) (Y:ImC I b off cs) (W:ev E x=some (.pointer (some ⟨b,off,none⟩)))
  (V:cs.length=s) (h:Nat.blt d n.sz=true) (U:fresh E d=true) (k:Ops P ops l n ((d,.agg cs.toArray) :: E) (Sym w0 M I0 I m) Q) :
  Ops P ops (⟨some d,.load T x,ty,pos,af,none⟩ :: l) n E (Sym w0 M I0 I m) Q:=
 Ops.val rfl rfl (fun a w O J=>by
  simp [execOp,O.eval W,JG (P:=P) D G V (fun i v hi=>Y.cell J hi)]) h U k
def cellsOf:Value→List Value
 | .agg cs=>cs.toList
 | v=>[v]
theorem Q3 (v:Value):v.cells=(cellsOf v).toArray:=by cases v <;> simp [Value.cells,cellsOf]
inductive aZ (fs:Array Field) (E:DA):List Value→List (Nat×Operand)→List Value→Prop
 | n {z:List Value}:aZ fs E z [] z
 | c {z z' cs vs:List Value} {i:Nat} {x:Operand} {r:List (Nat×Operand)} {f:Field} {v:Value} (hi:fs[i]? = some f) (hx:ev E x=some v) (hv:cellsOf v=vs) (hp:PutC z f.offset vs z') (k:aZ fs E z' r cs) :
  aZ fs E z ((i,x) :: r) cs
theorem YV:∀ (vs:List Value) (off j:Nat) (z:Array Value),off+j+vs.length≤z.size →
  ((vs.zipIdx j).foldl (fun cs (p:Value×Nat)=>cs.setIfInBounds (off+p.2) p.1) z)=(z.toList.take (off+j)++vs++z.toList.drop (off+j+vs.length)).toArray
 | [],off,j,z,_=>by simp
 | v :: vs,off,j,z,h=>by
  simp only [List.length_cons] at h
  rw [List.zipIdx_cons,List.foldl_cons,YV vs off (j+1) _ (by simp; omega)]
  congr 1
  have e:=list_seg_step z.toList (off+j) v vs (by simp; omega)
  simpa [Array.toList_setIfInBounds,Nat.add_assoc] using e
theorem AaH {places:Array (Nat×Nat)} (J:∀ (i:Nat) (f:Field),fs[i]? = some f→∃ s,places[i]? = some (f.offset,s)) {ev':Operand→Value} :
  ∀ {z:List Value} {r:List (Nat×Operand)} {cs:List Value},aZ fs E z r cs→(∀ x v,ev E x=some v→ev' x=v) →
   (∀ (i:Nat) (x:Operand) (f:Field) (s:Nat),(i,x)∈r→fs[i]? = some f→places[i]? = some (f.offset,s)→(cellsOf (ev' x)).length=s) →
   Instr.fill (places[·]?) z.toArray (r.map fun p=>(p.1,ev' p.2))=some cs.toArray:=by
 intro z r cs h
 induction h with
 | n=>intros; rfl
 | @c z z' cs vs i x r f v hi W U hp k Y=>
  intro he V
  obtain ⟨s,D⟩:=J i f hi
  have G:=V i x f s (by simp) hi D
  rw [he x v W,U] at G
  obtain ⟨O,hle⟩:=hp.eq
  have e1:(ev' x).cells=vs.toArray:=by rw [he x v W,Q3,U]
  simp only [List.map_cons,Instr.fill,D,e1]
  rw [if_neg (by simp; omega)]
  have e2:vs.toArray.zipIdx.foldl (fun cs (p:Value×Nat)=>cs.setIfInBounds (f.offset+p.2) p.1) z.toArray=z'.toArray:=by
   rw [←Array.foldl_toList,Array.toList_zipIdx]
   rw [YV vs f.offset 0 z.toArray (by simp; omega)]
   simp [O]
  rw [e2]
  exact Y he (fun i x f s Z=>V i x f s (List.mem_cons_of_mem _ Z))
def kH (P:Program) (E:DA) (fs:Array Field):List (Nat×Operand)→Prop
 | []=>True
 | p :: r=>(∃ f v,fs[p.1]? = some f∧ev E p.2=some v∧P.cellsOf f.type=(cellsOf v).length)∧kH P E fs r
theorem qM {fs:List Field}:∀ w,(∀ f∈fs,(P.info? f.type).isSome=true) →
  (fs.mapM fun f=>(do pure (f.offset,←sizeOf f.type):Sem (Nat×Nat))).run P w=.ok (fs.map fun f=>(f.offset,P.cellsOf f.type)) w:=by
 induction fs with
 | nil=>intro w _; rfl
 | cons f fs J=>
  intro w h
  have G:(sizeOf f.type).run P w=.ok (P.cellsOf f.type) w:=by
   obtain ⟨i,hi⟩:=Option.isSome_iff_exists.1 (h f (by simp))
   simp [sizeOf,typeInfo,hi,Program.cellsOf]
  rw [List.mapM_cons]
  simp only [Sem.run_bind,G,Result.andThen_ok,Sem.run_pure,J w (fun f D=>h f (by simp [D])),List.map_cons]
theorem mZ (h:∀ f∈fs.toList,(P.info? f.type).isSome=true) (w:World) :
  (fs.mapM fun f=>(do pure (f.offset,←sizeOf f.type):Sem (Nat×Nat))).run P w=.ok (fs.toList.map fun f=>(f.offset,P.cellsOf f.type)).toArray w:=by
 rw [Array.mapM_eq_mapM_toList]
 have:=qM (P:=P) w h
 simp only [Sem.run_map,this,Result.andThen_ok]
theorem Ops.build {S:World→Prop} {z:List Value} {h:List (Nat×Operand)} {cs:List Value} (hz:∀ w,(zeroValue T).run P w=.ok (.agg z.toArray) w) (U:P.underlying T=some (.struct fs))
  (W:(P.fieldsOf T).toList.all (fun f=>(P.info? f.type).isSome)=true) (O:aZ fs E z h cs) (Z:kH P E fs h) (Y:Nat.blt d n.sz=true) (hf:fresh E d=true) (k:Ops P ops l n ((d,.agg cs.toArray) :: E) S Q) :
  Ops P ops (⟨some d,.build T h.toArray,ty,pos,af,none⟩ :: l) n E S Q:=
 Ops.val rfl rfl (fun a w V _=>by
  have D:=AaH (places:=(fs.toList.map fun f=>(f.offset,P.cellsOf f.type)).toArray) (E:=E) (ev':=a.eval) (fun i f hi=>⟨P.cellsOf f.type,by
    have:fs.toList[i]? = some f:=by simpa using hi
    simp [this]⟩) O (fun x v hx=>V.eval hx) (fun i x f s G hi hp=>by
    have hs:P.cellsOf f.type=s:=by
     have:fs.toList[i]? = some f:=by simpa using hi
     simp [hi] at hp; exact hp
    rw [←hs]
    clear O k
    induction h with
    | nil=>cases G
    | cons p r ih=>
     obtain ⟨⟨f',v,h1,h2,h3⟩,h4⟩:=Z
     cases G with
     | head=>rw [V.eval h2]; rw [hi] at h1; cases h1; exact h3.symm
     | tail _ G=>exact ih h4 G)
  have J:∀ f∈fs.toList,(P.info? f.type).isSome=true:=by
   have e0:P.fieldsOf T=fs:=by simp [Program.fieldsOf,U]
   rw [e0] at W; exact List.all_eq_true.1 W
  simp only [execOp,Instr.build,Sem.run_bind,hz,Result.andThen_ok,run_underlying U,Value.cells,mZ J]
  have e:(Array.map (fun (x:Nat×Operand)=>(x.1,a.eval x.2)) h.toArray).toList=h.map fun p=>(p.1,a.eval p.2):=by simp
  rw [show (Array.map (fun x=>match x with | (i,x)=>(i,a.eval x)) h.toArray).toList=h.map fun p=>(p.1,a.eval p.2) from e,D]
  simp) Y hf k
end Go.Fw
