/- The engine. -/
import Derived.Test.YtbohadngdkjljaaGreatFwK
namespace Go.Fw
open Go Go.RowKit
variable {w0 w:World} {M:Nat→Prop} {I0 I I1:IH} {m m':List HA}
variable {P:Program} {n:FrK} {E:D7} {S:World→Prop} {Q:Exit→Act→World→Prop} {ops:Array Oper} {l:List Oper}
variable {d ty:Nat} {pos:String} {af:Array Edge} {T e:TypeId} {x y:Operand}
variable {α:Type} {El:ET α} {xs ys:List α} {a:Option Addr} {cap:Nat}
/-! ### Places -/
variable {Q':Exit→Act→World→Prop} {E1:D7} {σ:Type} {T':TypeId} {m1:List HA} {fn:Func} {tb:List (Nat×List Nat)} {id:Nat} {fz:Nat×Nat} {fs:Array Field} {parts:List (Nat×Operand)}
section
variable {A B C1 C2 C3 C4 C5 C6 C7 C8 C9:HA} {q:List HA}
theorem Del.p1:Del (C1 :: A :: q) A (C1 :: q):=.s .z
theorem At.p1:At (C1 :: A :: q) A (C1 :: B :: q) B:=.s .z
theorem Del.p2:Del (C1 :: C2 :: A :: q) A (C1 :: C2 :: q):=.s (.s .z)
theorem At.p2:At (C1 :: C2 :: A :: q) A (C1 :: C2 :: B :: q) B:=.s (.s .z)
theorem Del.p3:Del (C1 :: C2 :: C3 :: A :: q) A (C1 :: C2 :: C3 :: q):=.s (.s (.s .z))
theorem At.p3:At (C1 :: C2 :: C3 :: A :: q) A (C1 :: C2 :: C3 :: B :: q) B:=.s (.s (.s .z))
theorem Del.p4:Del (C1 :: C2 :: C3 :: C4 :: A :: q) A (C1 :: C2 :: C3 :: C4 :: q):=.s (.s (.s (.s .z)))
theorem At.p4:At (C1 :: C2 :: C3 :: C4 :: A :: q) A (C1 :: C2 :: C3 :: C4 :: B :: q) B:=.s (.s (.s (.s .z)))
theorem Del.p5:Del (C1 :: C2 :: C3 :: C4 :: C5 :: A :: q) A (C1 :: C2 :: C3 :: C4 :: C5 :: q):=.s (.s (.s (.s (.s .z))))
theorem At.p5:At (C1 :: C2 :: C3 :: C4 :: C5 :: A :: q) A (C1 :: C2 :: C3 :: C4 :: C5 :: B :: q) B:=.s (.s (.s (.s (.s .z))))
theorem Del.p6:Del (C1 :: C2 :: C3 :: C4 :: C5 :: C6 :: A :: q) A (C1 :: C2 :: C3 :: C4 :: C5 :: C6 :: q):=.s (.s (.s (.s (.s (.s .z)))))
theorem At.p6:At (C1 :: C2 :: C3 :: C4 :: C5 :: C6 :: A :: q) A (C1 :: C2 :: C3 :: C4 :: C5 :: C6 :: B :: q) B:=.s (.s (.s (.s (.s (.s .z)))))
theorem Del.p7:Del (C1 :: C2 :: C3 :: C4 :: C5 :: C6 :: C7 :: A :: q) A (C1 :: C2 :: C3 :: C4 :: C5 :: C6 :: C7 :: q):=.s (.s (.s (.s (.s (.s (.s .z))))))
theorem At.p7:At (C1 :: C2 :: C3 :: C4 :: C5 :: C6 :: C7 :: A :: q) A (C1 :: C2 :: C3 :: C4 :: C5 :: C6 :: C7 :: B :: q) B:=.s (.s (.s (.s (.s (.s (.s .z))))))
theorem Del.p8:Del (C1 :: C2 :: C3 :: C4 :: C5 :: C6 :: C7 :: C8 :: A :: q) A (C1 :: C2 :: C3 :: C4 :: C5 :: C6 :: C7 :: C8 :: q):=.s (.s (.s (.s (.s (.s (.s (.s .z)))))))
theorem At.p8:At (C1 :: C2 :: C3 :: C4 :: C5 :: C6 :: C7 :: C8 :: A :: q) A (C1 :: C2 :: C3 :: C4 :: C5 :: C6 :: C7 :: C8 :: B :: q) B:=.s (.s (.s (.s (.s (.s (.s (.s .z)))))))
theorem Del.p9:Del (C1 :: C2 :: C3 :: C4 :: C5 :: C6 :: C7 :: C8 :: C9 :: A :: q) A (C1 :: C2 :: C3 :: C4 :: C5 :: C6 :: C7 :: C8 :: C9 :: q):=.s (.s (.s (.s (.s (.s (.s (.s (.s .z))))))))
end
def iF:Nat→List HA→Option (HA×List HA)
 | _,[]=>none
 | 0,A :: q=>some (A,q)
 | k+1,C :: q=>match iF k q with
  | some (A,r)=>some (A,C :: r)
  | none=>none
theorem aC:∀ {k:Nat} {q r:List HA} {A:HA},iF k q=some (A,r)→Del q A r
 | _,[],_,_,h=>by cases ‹Nat› <;> cases h
 | 0,A :: q,_,_,h=>by cases h; exact .z
 | k+1,C :: q,r,A,h=>by
  simp only [iF] at h
  cases hd:iF k q with
  | none=>rw [hd] at h; cases h
  | some p=>obtain ⟨B,s⟩:=p; rw [hd] at h; cases h; exact .s (aC hd)
theorem Del.o {q r:List HA} {A:HA} (k:Nat) (h:iF k q=some (A,r)):Del q A r:=aC h
def wM:List Nat→List HA→Option (List HA)
 | [],_=>some []
 | k :: ks,q=>match iF k q with
  | some (A,r)=>match wM ks r with
   | some s=>some (A :: s)
   | none=>none
  | none=>none
theorem Pick.o {q s:List HA} (O:List Nat) (h:wM O q=some s):Pick q s:=by
 induction O generalizing q s with
 | nil=>cases h; exact .n
 | cons k O U=>
  simp only [wM] at h
  cases hd:iF k q with
  | none=>rw [hd] at h; cases h
  | some p=>
   obtain ⟨A,r⟩:=p; rw [hd] at h; simp only at h
   cases hp:wM O r with
   | none=>rw [hp] at h; cases h
   | some t=>rw [hp] at h; cases h; exact .c (aC hd) (U hp)
def tQ:List Nat→List HA→Option (List HA×List HA)
 | [],q=>some ([],q)
 | k :: ks,q=>match iF k q with
  | some (A,r)=>match tQ ks r with
   | some (s,t)=>some (A :: s,t)
   | none=>none
  | none=>none
theorem Outs.o {q s t:List HA} (O:List Nat) (h:tQ O q=some (s,t)):Outs q s t:=by
 induction O generalizing q s t with
 | nil=>cases h; exact .n
 | cons k O U=>
  simp only [tQ] at h
  cases hd:iF k q with
  | none=>rw [hd] at h; cases h
  | some p=>
   obtain ⟨A,r⟩:=p; rw [hd] at h; simp only at h
   cases hp:tQ O r with
   | none=>rw [hp] at h; cases h
   | some u=>obtain ⟨u1,u2⟩:=u; rw [hp] at h; cases h; exact .c (aC hd) (U hp)
def yX:Nat→List HA→Option (List HA)
 | 0,q=>some q
 | k+1,A :: q=>match yX k q with
  | some r=>some (A :: r)
  | none=>none
 | _+1,[]=>none
theorem tR:∀ {k:Nat} {q r:List HA},yX k q=some r→q=r
 | 0,_,_,h=>by cases h; rfl
 | k+1,A :: q,r,h=>by
  simp only [yX] at h
  cases hp:yX k q with
  | none=>rw [hp] at h; cases h
  | some s=>rw [hp] at h; cases h; rw [tR hp]
 | _+1,[],_,h=>by cases h
theorem Ops.rx (k:Nat) (h:yX k m=some m') (g:Ops P ops l n E (Sym w0 M I0 I m') Q):Ops P ops l n E (Sym w0 M I0 I m) Q:=tR h▸g
def rN:Nat→List HA→Option (List HA)
 | 0,[]=>some []
 | 0,_ :: _=>none
 | k+1,A :: q=>match rN k q with
  | some r=>some (A :: r)
  | none=>none
 | _+1,[]=>none
theorem eN:∀ {k:Nat} {q r:List HA},rN k q=some r→q=r
 | 0,[],_,h=>by cases h; rfl
 | 0,_ :: _,_,h=>by cases h
 | k+1,A :: q,r,h=>by
  simp only [rN] at h
  cases hp:rN k q with
  | none=>rw [hp] at h; cases h
  | some s=>rw [hp] at h; cases h; rw [eN hp]
 | _+1,[],_,h=>by cases h
theorem Ops.rn (k:Nat) (h:rN k m=some m') (g:Ops P ops l n E (Sym w0 M I0 I m') Q):Ops P ops l n E (Sym w0 M I0 I m) Q:=eN h▸g
theorem Cod.rn {c:Code} (k:Nat) (h:rN k m=some m') (g:Cod P c n E (Sym w0 M I0 I m') Q):Cod P c n E (Sym w0 M I0 I m) Q:=eN h▸g
theorem Nrm.rn (k:Nat) (h:rN k m=some m') (g:Nrm n E (Sym w0 M I0 I m') Q):Nrm n E (Sym w0 M I0 I m) Q:=eN h▸g
def lW:List Value→Nat→Nat→Option (List Value)
 | _,0,0=>some []
 | c :: cs,0,j+1=>match lW cs 0 j with
  | some vs=>some (c :: vs)
  | none=>none
 | _ :: cs,k+1,j=>lW cs k j
 | [],_,_=>none
theorem Cut.o:∀ {cs vs:List Value} {k:Nat} (j:Nat),lW cs k j=some vs→Cut cs k vs
 | cs,vs,0,0,h=>by cases cs <;> (simp only [lW] at h; cases h; exact .nil)
 | c :: cs,vs,0,j+1,h=>by
  simp only [lW] at h
  cases hp:lW cs 0 j with
  | none=>rw [hp] at h; cases h
  | some us=>rw [hp] at h; cases h; exact .t (Cut.o j hp)
 | c :: cs,vs,k+1,j,h=>by
  simp only [lW] at h
  exact .s (Cut.o j h)
 | [],_,0,_+1,h=>by simp [lW] at h
 | [],_,_+1,_,h=>by simp [lW] at h
def aD:List Value→Nat→List Value→Option (List Value)
 | cs,0,[]=>some cs
 | _ :: cs,0,v :: vs=>match aD cs 0 vs with
  | some r=>some (v :: r)
  | none=>none
 | c :: cs,k+1,vs=>match aD cs k vs with
  | some r=>some (c :: r)
  | none=>none
 | [],_,_=>none
theorem PutC.o:∀ {cs vs O:List Value} {k:Nat},aD cs k vs=some O→PutC cs k vs O
 | cs,[],O,0,h=>by cases cs <;> (simp only [aD] at h; cases h; exact .nil)
 | c :: cs,v :: vs,O,0,h=>by
  simp only [aD] at h
  cases hp:aD cs 0 vs with
  | none=>rw [hp] at h; cases h
  | some us=>rw [hp] at h; cases h; exact .t (PutC.o hp)
 | c :: cs,vs,O,k+1,h=>by
  simp only [aD] at h
  cases hp:aD cs k vs with
  | none=>rw [hp] at h; cases h
  | some us=>rw [hp] at h; cases h; exact .s (PutC.o hp)
 | [],_ :: _,_,0,h=>by simp [aD] at h
 | [],_,_,_+1,h=>by simp [aD] at h
def reE:D7→D7→Option D7
 | [],_=>some []
 | p :: A,E=>match look E p.1 with
  | some v=>match reE A E with
   | some B=>some ((p.1,v) :: B)
   | none=>none
  | none=>none
theorem tS:∀ {A E:D7},reE A E=some A→Sub A E
 | [],_,_=>trivial
 | p :: A,E,h=>by
  simp only [reE] at h
  cases hl:look E p.1 with
  | none=>rw [hl] at h; cases h
  | some v=>
   rw [hl] at h; simp only at h
   cases hr:reE A E with
   | none=>rw [hr] at h; cases h
   | some B=>
    rw [hr] at h
    simp only [Option.some.injEq,List.cons.injEq] at h
    obtain ⟨O,rfl⟩:=h
    exact ⟨by rw [hl,←O],tS hr⟩
theorem Ok.re {E':D7} {a:Act} (O:Ok n E a) (h:reE E' E=some E'):Ok n E' a:=O.sub (tS h)
def Jn (w0:World) (M:Nat→Prop) (I0 I1:IH) (n:FrK) (E:D7) (q:List HA):Act→World→Prop:=fun c w=>∃ I,IH.le I1 I∧Ok n E c∧Sym w0 M I0 I q w
def Jx (w0:World) (M:Nat→Prop) (I0 I1:IH) (n:FrK) (F:IH→Prop) (E:D7) (q:List HA):Act→World→Prop:=fun c w=>∃ I,IH.le I1 I∧F I∧Ok n E c∧Sym w0 M I0 I q w
theorem Cod.jn {c:Code} {U:(σ→Prop)→Prop} {k:σ→Prop} (V:DR U k) (Z ps:List Nat) (h:(xC Z E [],wM ps m)=(some E1,some m1))
 (O:(D7→List HA→Act→World→Prop)→D7→List HA→σ→Act→World→Prop) (Y:∀ k,U k→Cod P c n E (Sym w0 M I0 I m) (Exit.then (fun a w=>∃ s,k s∧O (Jn w0 M I0 I n) E1 m1 s a w) Q))
 (W:∀ s,k s→∀ a w,O (Jn w0 M I0 I n) E1 m1 s a w→Q .normal a w):Cod P c n E (Sym w0 M I0 I m) Q:=Cod.joinQ V _ Y W
theorem Cod.jx {c:Code} {U:(σ→Prop)→Prop} {k:σ→Prop} (V:DR U k) (Z ps:List Nat) (h:(xC Z E [],wM ps m)=(some E1,some m1))
 (O:(FrK→(IH→Prop)→D7→List HA→Act→World→Prop)→D7→List HA→σ→Act→World→Prop) (Y:∀ k,U k→Cod P c n E (Sym w0 M I0 I m) (Exit.then (fun a w=>∃ s,k s∧O (Jx w0 M I0 I) E1 m1 s a w) Q))
 (W:∀ s,k s→∀ a w,O (Jx w0 M I0 I) E1 m1 s a w→Q .normal a w):Cod P c n E (Sym w0 M I0 I m) Q:=Cod.joinQ V _ Y W
theorem Cod.lp {c:Code} {O:σ→(σ→Prop)→Prop} {s0:σ} (W:B2 O s0) (Z ps:List Nat) (h:(xC Z E [],wM ps m)=(some E1,some m1))
 (U:(D7→List HA→Act→World→Prop)→D7→List HA→σ→Act→World→Prop) (Y:∀ a w,Ok n E a→Sym w0 M I0 I m w→U (Jn w0 M I0 I n) E1 m1 s0 a w)
 (hs:∀ s (next:σ→Prop),O s next→∀ a w,U (Jn w0 M I0 I n) E1 m1 s a w→c.wpIn (SP n) 0 P (Exit.then (fun a' w'=>∃ V,next V∧U (Jn w0 M I0 I n) E1 m1 V a' w') Q) a w):Cod P (.loop c) n E (Sym w0 M I0 I m) Q:=Cod.loop W _ Y hs
theorem Cod.lx {c:Code} {O:σ→(σ→Prop)→Prop} {s0:σ} (W:B2 O s0) (Z ps:List Nat) (h:(xC Z E [],wM ps m)=(some E1,some m1))
 (U:(FrK→(IH→Prop)→D7→List HA→Act→World→Prop)→D7→List HA→σ→Act→World→Prop) (Y:∀ a w,Ok n E a→Sym w0 M I0 I m w→U (Jx w0 M I0 I) E1 m1 s0 a w)
 (hs:∀ s (next:σ→Prop),O s next→∀ a w,U (Jx w0 M I0 I) E1 m1 s a w→c.wpIn (SP n) 0 P (Exit.then (fun a' w'=>∃ V,next V∧U (Jx w0 M I0 I) E1 m1 V a' w') Q) a w):Cod P (.loop c) n E (Sym w0 M I0 I m) Q:=Cod.loop W _ Y hs
theorem ji {V:Act→World→Prop} {E':D7} {q:List HA} (O:I1.le I) (U:List Nat) (h:(V,reE E' E,wM U m)=(Jn w0 M I0 I1 n E' q,some E',some q)):∀ a w,Ok n E a→Sym w0 M I0 I m w→V a w:=fun a w W Y=>by
 injection h with h1 h2; injection h2 with h2 h3
 rw [h1]; exact ⟨I,O,W.re h2,Y.pick (.o U h3)⟩
theorem je {k:σ→Prop} {V:σ→Act→World→Prop} {E':D7} {q:List HA} (s:σ) (hk:k s) (O:I1.le I) (U:List Nat) (h:(V s,reE E' E,wM U m)=(Jn w0 M I0 I1 n E' q,some E',some q)):∀ a w,Ok n E a→Sym w0 M I0 I m w→∃ s,k s∧V s a w:=
 fun a w W Y=>⟨s,hk,ji O U h a w W Y⟩
theorem jf {F:IH→Prop} {E':D7} {q:List HA} {a:Act} {w:World} (O:I1.le I) (W:F I) (U:List Nat) (h:(reE E' E,wM U m)=(some E',some q)) (V:Ok n E a) (Y:Sym w0 M I0 I m w):Jx w0 M I0 I1 n F E' q a w:=by
 injection h with h2 h3
 exact ⟨I,O,W,V.re h2,Y.pick (.o U h3)⟩
theorem jq {G:Act→World→Prop} {y:Code} {q:List HA} (W:G=fun a w=>y.wpIn (SP n) 0 P Q' a w) (h:∀ O,I.le O→Cod P y n E (Sym w0 M I0 O q) Q'):∀ a w,Jn w0 M I0 I n E q a w→G a w:=fun a w ⟨O,U,V,Y⟩=>by
 rw [W]; exact h O U a w V Y
class Up (A:Prop) (I J:IH) (B:outParam Prop):Prop where
 up:I.le J→A→B
instance {I J K:IH}:Up (IH.le K I) I J (IH.le K J):=⟨fun h k=>k.trans h⟩
instance {α:Type} {El:ET α} {a:Option Addr} {cap:Nat} {xs:List α} {I J:IH}:Up (RepSl El I a cap xs) I J (RepSl El J a cap xs):=⟨fun h k=>k.mono h⟩
instance {b off:Nat} {cs:List Value} {I J:IH}:Up (ImC I b off cs) I J (ImC J b off cs):=⟨fun h k=>k.mono h⟩
instance {α:Type} {El:ET α} {O:List (ZC El.sz)} {xs:List α} {I J:IH}:Up (RepR El I O xs) I J (RepR El J O xs):=⟨fun h k=>k.mono h⟩
section
variable {J:IH} {A B C D F G A' B' C' D' F' G':Prop}
theorem IH.le.u1 (h:I.le J) (a:A) [Up A I J A']:A':=Up.up h a
theorem IH.le.u2 (h:I.le J) (a:A) (b:B) [Up A I J A'] [Up B I J B']:A'∧B':=⟨h.u1 a,h.u1 b⟩
theorem IH.le.u3 (h:I.le J) (a:A) (b:B) (c:C) [Up A I J A'] [Up B I J B'] [Up C I J C']:A'∧B'∧C':=⟨h.u1 a,h.u2 b c⟩
theorem IH.le.u4 (h:I.le J) (a:A) (b:B) (c:C) (d:D) [Up A I J A'] [Up B I J B'] [Up C I J C'] [Up D I J D']:A'∧B'∧C'∧D':=⟨h.u1 a,h.u3 b c d⟩
theorem IH.le.u5 (h:I.le J) (a:A) (b:B) (c:C) (d:D) (f:F) [Up A I J A'] [Up B I J B'] [Up C I J C'] [Up D I J D'] [Up F I J F']:A'∧B'∧C'∧D'∧F':=⟨h.u1 a,h.u4 b c d f⟩
theorem IH.le.u6 (h:I.le J) (a:A) (b:B) (c:C) (d:D) (f:F) (g:G) [Up A I J A'] [Up B I J B'] [Up C I J C'] [Up D I J D'] [Up F I J F'] [Up G I J G']:A'∧B'∧C'∧D'∧F'∧G':=⟨h.u1 a,h.u5 b c d f g⟩
end
theorem rf:IH.le I I:=.refl _
def rsl (k:Nat) (h:List Nat):D7→Option (D7×List Nat)
 | []=>some ([],[])
 | (q,x) :: E=>match rsl k h E with
  | some (F,ns)=>bif JJ h q then match x with
    | .slice a j c=>some ((q,.slice a k c) :: F,j :: ns)
    | _=>none
   else some ((q,x) :: F,ns)
  | none=>none
def cps (k:Nat):List Nat→List Nat
 | []=>[]
 | _ :: r=>k :: cps k r
theorem tT {k:Nat}:∀ {O:List Nat} {j:Nat},j∈cps k O→j=k
 | _ :: _,_,h=>by
  simp only [cps,List.mem_cons] at h
  rcases h with h | h
  · exact h
  · exact tT h
theorem rO {k:Nat} {U:List Nat} {a:Act}:∀ {E E':D7} {O:List Nat},rsl k U E=some (E',O)→(∀ j∈O,j=k)→EnvOk E a→EnvOk E' a
 | [],_,_,h,_,_=>by cases h; trivial
 | (y,x) :: E,E',O,h,hn,he=>by
  simp only [rsl] at h
  cases hr:rsl k U E with
  | none=>rw [hr] at h; cases h
  | some q=>
   obtain ⟨F,ms⟩:=q
   rw [hr] at h; simp only at h
   cases hb:JJ U y with
   | false=>rw [hb] at h; cases h; exact ⟨he.1,rO hr hn he.2⟩
   | true=>
    rw [hb] at h; simp only [cond_true] at h
    split at h
    · rename_i b u j c
      cases h
      have V:j=k:=hn j (by simp)
      exact ⟨by rw [←V]; exact he.1,rO hr (fun i hi=>hn i (by simp [hi])) he.2⟩
    · cases h
theorem Ops.rl {k:Nat} {E':D7} (hA:Del m (OwnSl El T a cap xs) m') (U:List Nat) (h:rsl xs.length U E=some (E',cps k U)) (hk:xs.length=k) (g:Ops P ops l n E' (Sym w0 M I0 I m) Q):Ops P ops l n E (Sym w0 M I0 I m) Q:=
 fun c w O W=>g c w ⟨O.size,O.defers,rO h (fun j V=>by rw [hk]; exact tT V) O.env⟩ W
theorem Ops.no {z:Code} {E':D7} (O:Nat) (h:(selN O E [],fun a w=>Q .normal a w)=(some E',fun a w=>z.wpIn (SP n) 0 P Q' a w)) (g:Cod P z n E' S Q'):Ops P ops [] n E S Q:=by
 injection h with h1 h2; exact .nilS O h1 h2 g
theorem Ops.nkT (Y:AllOk P tb) {z:Code} {E' W:D7} {O U:List Oper} (V:Nat) (j:Nat)
  (h:(selN V E [],(fun a w=>Q .normal a w),fA tb O.toArray n j O E')=(some E',(fun a w=>(Code.seq (.region id O.toArray false) z).wpIn (SP n) 0 P Q' a w),some (U,W)))
  (g:Ops P O.toArray U n W S (Exit.then (z.wpIn (SP n) 0 P Q') Q')):Ops P ops [] n E S Q:=by
 injection h with h1 h2; injection h2 with h2 h3; exact .nilS V h1 h2 (.sr (.ksT Y j h3 g))
theorem Ops.ns {z:Code} {E':D7} {O:List Oper} (U:Nat)
  (h:(selN U E [],(fun a w=>Q .normal a w))=(some E',(fun a w=>(Code.seq (.region id O.toArray false) z).wpIn (SP n) 0 P Q' a w)))
  (g:Ops P O.toArray O n E' S (Exit.then (z.wpIn (SP n) 0 P Q') Q')):Ops P ops [] n E S Q:=by
 injection h with h1 h2; exact .nilS U h1 h2 (.sr g)
theorem Cod.skT (U:AllOk P tb) {l O:List Oper} {z:Code} {E':D7} (j:Nat) (h:fA tb l.toArray n j l E=some (O,E')) (g:Ops P l.toArray O n E' S (Exit.then (z.wpIn (SP n) 0 P Q) Q)):Cod P (.seq (.region id l.toArray false) z) n E S Q:=.sr (.ksT U j h g)
theorem Ops.knT (U:AllOk P tb) {z:Code} {E':D7} (j:Nat) (O:Nat) (h:(fA tb ops n j l E,selN O E1 [],fun a w=>Q .normal a w)=(some ([],E1),some E',fun a w=>z.wpIn (SP n) 0 P Q' a w)) (g:Cod P z n E' S Q'):Ops P ops l n E S Q:=by
 injection h with h1 h2; injection h2 with h2 h3; exact .ksT U j h1 (.nilS O h2 h3 g)
theorem Cod.sn {z:Code} {E':D7} (O:Nat) (h:(selN O E [],fun a w=>Q .normal a w)=(some E',fun a w=>z.wpIn (SP n) 0 P Q' a w)) (g:Cod P z n E' S Q'):Cod P .skip n E S Q:=by
 injection h with h1 h2; exact .skipS O h1 h2 g
theorem Cod.en {z:Code} {k:Nat} {E':D7} (O:Nat) (h:(selN O E [],fun a w=>Q (.exit k) a w)=(some E',fun a w=>z.wpIn (SP n) 0 P Q' a w)) (g:Cod P z n E' S Q'):Cod P (.exit k) n E S Q:=by
 injection h with h1 h2; exact .exitS O h1 h2 g
theorem Ops.lo {b off:Nat} {cs:List Value} {v:Value} (U:∀ w,(isAgg T).run P w=.ok false w) (O:Del m (pto b (.cells cs.toArray T' fz)) m')
  (h:(ev E x,cs[off]?,Nat.blt d n.sz,fresh E d)=(some (.pointer (some ⟨b,off,none⟩)),some v,true,true)) (k:Ops P ops l n ((d,v) :: E) (Sym w0 M I0 I m) Q):Ops P ops (⟨some d,.load T x,ty,pos,af,none⟩ :: l) n E (Sym w0 M I0 I m) Q:=by
 injection h with h1 h; injection h with h2 h; injection h with h3 h4; exact .load1 U h1 O h2 h3 h4 k
theorem Ops.lw {b s:Nat} {cs:List Value} (V:∀ w,(isAgg T).run P w=.ok true w) (O:∀ w,(sizeOf T).run P w=.ok s w) (U:Del m (pto b (.cells cs.toArray T' fz)) m')
  (h:(ev E x,cs.length,Nat.blt d n.sz,fresh E d)=(some (.pointer (some ⟨b,0,none⟩)),s,true,true)) (k:Ops P ops l n ((d,.agg cs.toArray) :: E) (Sym w0 M I0 I m) Q):Ops P ops (⟨some d,.load T x,ty,pos,af,none⟩ :: l) n E (Sym w0 M I0 I m) Q:=by
 injection h with h1 h; injection h with h2 h; injection h with h3 h4; exact .loadW V O h1 U h2 h3 h4 k
theorem Ops.sa {b off s:Nat} {cs vs O:List Value} (U:∀ w,(sizeOf T).run P w=.ok s w) (V:At m (pto b (.cells cs.toArray T' (0,0))) m' (pto b (.cells O.toArray T' (0,0))))
  (h:(ev E x,ev E y,aD cs off vs,vs.length,LM vs)=(some (.pointer (some ⟨b,off,none⟩)),some (.agg vs.toArray),some O,s,true)) (k:Ops P ops l n E (Sym w0 M I0 I m') Q):Ops P ops (⟨none,.store T x y,ty,pos,af,none⟩ :: l) n E (Sym w0 M I0 I m) Q:=by
 injection h with h1 h; injection h with h2 h; injection h with h3 h; injection h with h4 h5; exact .storeA U h1 h2 V (.o h3) h4 h5 k
theorem Ops.s1 {b off:Nat} {cs O:List Value} {v:Value} (U:∀ w,(sizeOf T).run P w=.ok 1 w) (V:At m (pto b (.cells cs.toArray T' (0,0))) m' (pto b (.cells O.toArray T' (0,0))))
  (h:(ev E x,ev E y,aD cs off [v],one v)=(some (.pointer (some ⟨b,off,none⟩)),some v,some O,true)) (k:Ops P ops l n E (Sym w0 M I0 I m') Q):Ops P ops (⟨none,.store T x y,ty,pos,af,none⟩ :: l) n E (Sym w0 M I0 I m) Q:=by
 injection h with h1 h; injection h with h2 h; injection h with h3 h4; exact .store1 U h1 h2 V (.o h3) h4 k
theorem Ops.yes {O:Option Nat} {U:Op} {j s:Nat} {b c:Bool} (h:(eQ ops j,look E s,c)=(some s,some (.bool c),b)) (k:Ops P ops (⟨O,U,ty,pos,af,none⟩ :: l) n E S Q):Ops P ops (⟨O,U,ty,pos,af,some (j,b)⟩ :: l) n E S Q:=by
 injection h with h1 h; injection h with h2 h3; exact .gyes h1 h2 h3 k
theorem DrawD.h {cs:List (Option Nat)} {dn:HM} {X pend:List Nat} {as:List AS} {L:Sh} {c:Nat} {o:Oper} {v:Value} (h:(ops[c]?,o.dst,fresh E d)=(some o,some d,true)) (g:∀ O,Ops P ops [o] n (JK dn (EO o) E) (Sym w0 M I0 I (L O)) (Fin n (Sym w0 M I0 I (L O)) d v))
  (k:DrawD P ops n Q w0 M I0 E cs ((c,d,v) :: dn) (c :: X) (c :: pend) as I L):DrawD P ops n Q w0 M I0 E (some c :: cs) dn X pend as I L:=by
 injection h with h1 h; injection h with h2 h3; exact .g h1 h2 h3 g k
theorem RepSl.ix {enc:α→List Value} {s:Nat} {he:∀ x,(enc x).length=s∧LM (enc x)=true} {a:Option Addr} {cap:Nat} {xs:List α} {i:Int} {k:α→Prop} (h:RepSl (IF s enc he) I a cap xs) (V:AN xs i k) :
  ∃ (_:0≤i) (x:α) (_:xs[i.toNat]? = some x) (b off:Nat),a=some ⟨b,off,none⟩∧ImC I b (off+i.toNat*s) (enc x)∧k x:=by
 obtain ⟨W,x,O,hk⟩:=V
 obtain ⟨b,off,cs,U,Y,Z⟩:=h.2 _ _ O
 cases Z
 exact ⟨W,x,O,b,off,U,Y,hk⟩
theorem Ops.ixb {S:World→Prop} {k s off b:Nat} {q:IntKind} {i:Int} {v:α} (Y:P.underlying T=some (.slice e)) (V:∀ w,(sizeOf e).run P w=.ok s w) (U:a=some ⟨b,off,none⟩) (O:0≤i) (W:xs[i.toNat]? = some v)
  (h:(ev E x,ev E y,xs.length,Nat.blt d n.sz,fresh E d)=(some (.slice a k cap),some (.int q i),k,true,true)) (g:Ops P ops l n ((d,.pointer (some ⟨b,off+i.toNat*s,none⟩)) :: E) S Q):Ops P ops (⟨some d,.indexAddr T x y,ty,pos,af,none⟩ :: l) n E S Q:=by
 injection h with h1 h; injection h with h2 h; injection h with h3 h; injection h with h4 h5; subst h3; exact .ixa Y V h1 U h2 O (BD W O) h4 h5 g
theorem Ops.ldb {b off o:Nat} {cs:List Value} {v:Value} (j:Nat) (U:∀ w,(isAgg T).run P w=.ok false w) (O:ImC I b off cs) (h:(ev E x,off+j,cs[j]?,Nat.blt d n.sz,fresh E d)=(some (.pointer (some ⟨b,o,none⟩)),o,some v,true,true))
  (k:Ops P ops l n ((d,v) :: E) (Sym w0 M I0 I m) Q):Ops P ops (⟨some d,.load T x,ty,pos,af,none⟩ :: l) n E (Sym w0 M I0 I m) Q:=by
 injection h with h1 h; injection h with h2 h; injection h with h3 h; injection h with h4 h5; exact .ld1 U O h1 h2.symm h3 h4 h5 k
def rpl (h:List Nat) (v:Value):D7→Option (D7×List Value)
 | []=>some ([],[])
 | (k,x) :: E=>match rpl h v E with
  | some (F,ns)=>bif JJ h k then some ((k,v) :: F,x :: ns) else some ((k,x) :: F,ns)
  | none=>none
def rep (v:Value):List Nat→List Value
 | []=>[]
 | _ :: r=>v :: rep v r
theorem lX {v x:Value}:∀ {O:List Nat},x∈rep v O→x=v
 | _ :: _,h=>by
  simp only [rep,List.mem_cons] at h
  rcases h with h | h
  · exact h
  · exact lX h
theorem lY {U:List Nat} {v:Value} {a:Act}:∀ {E E':D7} {O:List Value},rpl U v E=some (E',O)→(∀ x∈O,x=v)→EnvOk E a→EnvOk E' a
 | [],_,_,h,_,_=>by cases h; trivial
 | (k,x) :: E,E',O,h,hn,he=>by
  simp only [rpl] at h
  cases hr:rpl U v E with
  | none=>rw [hr] at h; cases h
  | some q=>
   obtain ⟨F,ms⟩:=q
   rw [hr] at h; simp only at h
   cases hb:JJ U k with
   | false=>rw [hb] at h; cases h; exact ⟨he.1,lY hr hn he.2⟩
   | true=>
    rw [hb] at h; cases h
    exact ⟨by rw [←hn x (by simp)]; exact he.1,lY hr (fun i hi=>hn i (by simp [hi])) he.2⟩
theorem Ops.spl {t:Bool} {A B:Prop} {Y:D7} (Z:AD t A B) (U:List Nat) (h:(rpl U (.bool true) E,rpl U (.bool false) E)=(some (E1,rep (.bool t) U),some (Y,rep (.bool t) U)))
  (h1:t=true→A→Ops P ops l n E1 S Q) (h0:t=false→B→Ops P ops l n Y S Q):Ops P ops l n E S Q:=by
 injection h with g1 g0
 cases t with
 | true=>exact fun c w O V=>h1 rfl (Z.1 rfl) c w ⟨O.size,O.defers,lY g1 (fun _ W=>lX W) O.env⟩ V
 | false=>exact fun c w O V=>h0 rfl (Z.2 rfl) c w ⟨O.size,O.defers,lY g0 (fun _ W=>lX W) O.env⟩ V
def Ab6 (fs:Array Field) (E:D7):List Value→List (Nat×Operand)→Option (List Value)
 | z,[]=>some z
 | z,p :: r=>match fs[p.1]? with
  | some f=>match ev E p.2 with
   | some v=>match aD z f.offset (cellsOf v) with
    | some z'=>Ab6 fs E z' r
    | none=>none
   | none=>none
  | none=>none
theorem tU :∀ {r:List (Nat×Operand)} {z cs:List Value},Ab6 fs E z r=some cs→bJ fs E z r cs
 | [],_,_,h=>by cases h; exact .n
 | p :: r,z,cs,h=>by
  simp only [Ab6] at h
  split at h
  · rename_i f U
    split at h
    · rename_i v O
      split at h
      · rename_i z' V; exact .c U O rfl (.o V) (tU h)
      · cases h
    · cases h
  · cases h
def szA (P:Program) (fs:Array Field):List (Nat×Operand)→Option (List Nat)
 | []=>some []
 | p :: r=>match fs[p.1]? with
  | some f=>match szA P fs r with
   | some q=>some (P.cellsOf f.type :: q)
   | none=>none
  | none=>none
def szB (E:D7):List (Nat×Operand)→Option (List Nat)
 | []=>some []
 | p :: r=>match ev E p.2 with
  | some v=>match szB E r with
   | some q=>some ((cellsOf v).length :: q)
   | none=>none
  | none=>none
theorem Ac7 :∀ {r:List (Nat×Operand)} {q:List Nat},szA P fs r=some q→szB E r=some q→kL P E fs r
 | [],_,_,_=>trivial
 | p :: r,q,h,h'=>by
  simp only [szA] at h
  simp only [szB] at h'
  split at h
  · rename_i f U
    split at h
    · rename_i q1 W
      split at h'
      · rename_i v O
        split at h'
        · rename_i q2 V
          cases h
          injection h' with h'
          injection h' with h3 h4
          subst h4
          exact ⟨⟨f,v,U,O,h3.symm⟩,Ac7 W V⟩
        · cases h'
      · cases h'
    · cases h
  · cases h
theorem Ops.bd {z:List Value} {cs:List Value} {q:List Nat} (V:∀ w,(zeroValue T).run P w=.ok (.agg z.toArray) w) (U:P.underlying T=some (.struct fs)) (O:(P.fieldsOf T).toList.all (fun f=>(P.info? f.type).isSome)=true)
  (h:(Ab6 fs E z parts,szA P fs parts,szB E parts,Nat.blt d n.sz,fresh E d)=(some cs,some q,some q,true,true)) (k:Ops P ops l n ((d,.agg cs.toArray) :: E) S Q):Ops P ops (⟨some d,.build T parts.toArray,ty,pos,af,none⟩ :: l) n E S Q:=by
 injection h with h1 h; injection h with h2 h; injection h with h3 h; injection h with h4 h5; exact .build V U O (tU h1) (Ac7 h2 h3) h4 h5 k
def Ab7 (E:D7) (s:Nat):List Value→List (Nat×Operand)→Option (List Value)
 | z,[]=>some z
 | z,p :: r=>match ev E p.2 with
  | some v=>bif Nat.beq (cellsOf v).length s then match aD z (p.1*s) (cellsOf v) with
    | some z'=>Ab7 E s z' r
    | none=>none
   else none
  | none=>none
theorem tV {s:Nat}:∀ {r:List (Nat×Operand)} {z cs:List Value},Ab7 E s z r=some cs→bN E s z r cs
 | [],_,_,h=>by cases h; exact .n
 | p :: r,z,cs,h=>by
  simp only [Ab7] at h
  split at h
  · rename_i v O
    cases hb:Nat.beq (cellsOf v).length s with
    | false=>rw [hb] at h; cases h
    | true=>
     rw [hb] at h; simp only [cond_true] at h
     split at h
     · rename_i z' U; exact .c O rfl (Nat.eq_of_beq_eq_true hb) (.o U) (tV h)
     · cases h
  · cases h
theorem Ops.ba {O s:Nat} {z:List Value} {cs:List Value} (V:∀ w,(zeroValue T).run P w=.ok (.agg z.toArray) w) (U:P.underlying T=some (.array O e)) (W:∀ w,(sizeOf e).run P w=.ok s w)
  (h:(Ab7 E s z parts,Nat.blt d n.sz,fresh E d)=(some cs,true,true)) (k:Ops P ops l n ((d,.agg cs.toArray) :: E) S Q):Ops P ops (⟨some d,.build T parts.toArray,ty,pos,af,none⟩ :: l) n E S Q:=by
 injection h with h1 h; injection h with h2 h3; exact .buildArr V U W (tV h1) h2 h3 k
def Ab8 (E:D7) (s:Nat):Nat→List (Nat×Operand)→Option (List Value)
 | _,[]=>some []
 | i,p :: r=>bif Nat.beq p.1 i then match ev E p.2 with
   | some v=>bif Nat.beq (cellsOf v).length s then match Ab8 E s (i+1) r with
     | some cs=>some (cellsOf v++cs)
     | none=>none
    else none
   | none=>none
  else none
theorem tW {s:Nat}:∀ {r:List (Nat×Operand)} {i:Nat} {cs:List Value},Ab8 E s i r=some cs→bM E s i r cs
 | [],_,_,h=>by cases h; exact .n
 | p :: r,i,cs,h=>by
  simp only [Ab8] at h
  cases hi:Nat.beq p.1 i with
  | false=>rw [hi] at h; cases h
  | true=>
   rw [hi] at h; simp only [cond_true] at h
   obtain rfl:=Nat.eq_of_beq_eq_true hi
   split at h
   · rename_i v O
     cases hb:Nat.beq (cellsOf v).length s with
     | false=>rw [hb] at h; cases h
     | true=>
      rw [hb] at h; simp only [cond_true] at h
      split at h
      · rename_i q U; cases h; exact .c O rfl (Nat.eq_of_beq_eq_true hb) (tW U)
      · cases h
   · cases h
theorem Ops.bs {s:Nat} {z:Value} {cs:List Value} (k:Nat) (U:P.underlying T=some (.slice e)) (W:∀ w,(sizeOf e).run P w=.ok s w) (V:∀ w,(zeroValue e).run P w=.ok z w)
  (h:(Ab8 E s 0 parts,parts.length,Nat.ble (k*s) 16777216,Nat.blt d n.sz,fresh E d)=(some cs,k,true,true,true))
  (O:∀ b,Ops P ops l n ((d,.slice (some ⟨b,0,none⟩) k k) :: E) (Sym w0 M I0 I (pto b (.cells cs.toArray e) :: m)) Q) :
  Ops P ops (⟨some d,.buildSlice T k parts.toArray,ty,pos,af,none⟩ :: l) n E (Sym w0 M I0 I m) Q:=by
 injection h with h1 h; injection h with h2 h; injection h with h3 h; injection h with h4 h5; exact .buildSlice k U W V h2.symm h3 (tW h1) h4 h5 O
theorem DrawD.hl {cs:List (Option Nat)} {dn:HM} {X pend:List Nat} {as:List AS} {L:Sh} {c:Nat} {v:Value} {b off:Nat} {vs:List Value} {r:List HA→List HA} (V:∀ w,(isAgg T).run P w=.ok false w) (k:Nat)
  (h:(ops[c]?,fresh E d,(fun O=>iF k (L O)),ev (JK dn (EO ⟨some d,.load T x,ty,pos,af,none⟩) E) x,vs[off]?,Nat.blt d n.sz,fresh (JK dn (EO ⟨some d,.load T x,ty,pos,af,none⟩) E) d) =
   (some ⟨some d,.load T x,ty,pos,af,none⟩,true,(fun O=>some (pto b (.cells vs.toArray T' fz),r O)),some (.pointer (some ⟨b,off,none⟩)),some v,true,true))
  (U:DrawD P ops n Q w0 M I0 E cs ((c,d,v) :: dn) (c :: X) (c :: pend) as I L):DrawD P ops n Q w0 M I0 E (some c :: cs) dn X pend as I L:=by
 injection h with h1 h; injection h with h2 h; injection h with h3 h; injection h with h4 h; injection h with h5 h; injection h with h6 h7
 exact .g h1 rfl h2 (fun O=>.load1 V h4 (aC (congrFun h3 O)) h5 h6 h7 .mk) U
theorem PendL.ch {S:List HA→World→Prop} {dn:HM} {f:Nat} {fs:List Nat} {o:Oper} {v:Value} (h:(ops[f]?,o.dst,fresh E d,H0 dn f)=(some o,some d,true,some (d,v))) (g:∀ O,Ops P ops [o] n (JK dn (EO o) E) (S O) (Fin n (S O) d v))
  (k:PendL P ops n E dn S fs):PendL P ops n E dn S (f :: fs):=by
 injection h with h1 h; injection h with h2 h; injection h with h3 h4; exact .cg h1 h2 h3 h4 g k
theorem Ops.ln {S:World→Prop} {k:Nat} {O:Array TypeId} (U:P.underlying T=some (.slice e)) (h:(O[0]?,ev E x,Nat.blt d n.sz,fresh E d)=(some T,some (.slice a k cap),true,true))
  (g:Ops P ops l n ((d,.int .i64 (k:Int)) :: E) S Q):Ops P ops (⟨some d,.call ⟨.builtin .len,#[x],O⟩,ty,pos,af,none⟩ :: l) n E S Q:=by
 injection h with h1 h; injection h with h2 h; injection h with h3 h4; exact .len U h1 h2 h3 h4 g
theorem Ops.al {z:Array Value} (O:∀ w,(zeroValue T).run P w=.ok (.agg z) w) (h:(Nat.blt d n.sz,fresh E d)=(true,true))
  (k:∀ b,Ops P ops l n ((d,.pointer (some ⟨b,0,none⟩)) :: E) (Sym w0 M I0 I (pto b (.cells z T) :: m)) Q):Ops P ops (⟨some d,.alloc T,ty,pos,af,none⟩ :: l) n E (Sym w0 M I0 I m) Q:=by
 injection h with h1 h2; exact .allocA O h1 h2 k
theorem Ops.bx {z:Array Value} (h:(ev E x,Nat.blt d n.sz,fresh E d)=(some (.agg z),true,true))
  (k:∀ b,Ops P ops l n ((d,.pointer (some ⟨b,0,none⟩)) :: E) (Sym w0 M I0 I (pto b (.cells z T) :: m)) Q):Ops P ops (⟨some d,.box T x,ty,pos,af,none⟩ :: l) n E (Sym w0 M I0 I m) Q:=by
 injection h with h1 h; injection h with h2 h3; exact .boxA h1 h2 h3 k
theorem Ops.cq {g:FuncId} {args:List Operand} {vs:List Value} {O:Array TypeId} {ρ:Type} {U:ρ→Value} {R:ρ→Prop} (Z:∀ as w,(callFunc g as).run P w=.ok (.enter g as) w) (V:BH P g vs I fun _ v=>∃ r,v=U r∧R r)
  (h:(qE E args,Nat.blt d n.sz,fresh E d)=(some vs,true,true)) (k:∀ r,R r→Ops P ops l n ((d,U r) :: E) (Sym w0 M I0 I m) Q):Ops P ops (⟨some d,.call ⟨.value (.func g),args.toArray,O⟩,ty,pos,af,none⟩ :: l) n E (Sym w0 M I0 I m) Q:=by
 injection h with h1 h; injection h with h2 h3; exact .callP Z h1 V h2 h3 fun v ⟨r,W,Y⟩=>by subst W; exact k r Y
def oY:Nat→List Value→Option D7
 | _,[]=>some []
 | i,v :: vs=>match oY (i+1) vs with
  | some E=>some ((i,v) :: E)
  | none=>none
theorem oZ:∀ {i:Nat} {vs:List Value} {E:D7},oY i vs=some E→ArgsE i vs E
 | _,[],_,h=>by cases h; exact .n
 | i,v :: vs,E,h=>by
  simp only [oY] at h
  cases hr:oY (i+1) vs with
  | none=>rw [hr] at h; cases h
  | some F=>rw [hr] at h; cases h; exact .c (oZ hr)
theorem Fun.en {f:FuncId} {c:Code} {z:Nat} {vs:List Value} {q:List HA} {φ:IH→Value→List HA→Prop} (O:P.funcs[f]? = some fn) (U:fn.ntmps=z) (h:(fn.body,Nat.ble vs.length z,oY 0 vs)=(some c,true,some E))
  (k:∀ w M,Cod P c ⟨z,[],none⟩ E (Sym w M I I q) (K4 P fn (RQ w M I φ))):Fun P f vs.toArray I q φ:=by
 injection h with h1 h; injection h with h2 h3; exact .enter O h1 U h2 (oZ h3) k
theorem Cod.r1 {z t:Nat} {v:Value} {ψ:IH→Value→Prop} (Z:fn.results=[ResultVar.tmp t].toArray) (h:(look E t,fun a w=>Q .ret a w)=(some v,K4 P fn (RQ w0 M I0 fun U v l=>l=[]∧ψ U v) .ret)) (O:I0.le I) (W:ψ I v) :
  Cod P .ret ⟨z,[],none⟩ E (Sym w0 M I0 I m) Q:=by
 injection h with h1 h2; exact .ret fun c w V Y=>(congrFun (congrFun h2 c) w).mpr (B9 Z (.t h1 .n) O W c w V Y)
theorem Cod.r0 {z t:Nat} {v:Value} {ψ:IH→Value→Prop} (V:fn.results=[ResultVar.tmp t].toArray) (h:(look E t,fun a w=>Q .ret a w)=(some v,K4 P fn (RQ w0 M I fun O v l=>l=[]∧ψ O v) .ret)) (U:ψ I v) :
 Cod P .ret ⟨z,[],none⟩ E (Sym w0 M I I m) Q:=.r1 V h rf U
theorem Cod.q1 {z t:Nat} {v:Value} {φ:IH→Value→List HA→Prop} (Z:fn.results=[ResultVar.tmp t].toArray) (O:I0.le I) (U:List Nat) (h:(look E t,wM U m,fun a w=>Q .ret a w)=(some v,some m',K4 P fn (RQ w0 M I0 φ) .ret)) (W:φ I v m') :
  Cod P .ret ⟨z,[],none⟩ E (Sym w0 M I0 I m) Q:=by
 injection h with h1 h; injection h with h2 h3; exact .ret fun c w V Y=>(congrFun (congrFun h3 c) w).mpr (JG Z (.t h1 .n) O (.o U h2) W c w V Y)
end Go.Fw
