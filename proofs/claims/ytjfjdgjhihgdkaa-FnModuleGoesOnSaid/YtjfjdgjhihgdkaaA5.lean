/- Part 5 of the proof of FnModuleGoesOn. -/
import Derived.Test.YtjfjdgjhihgdkaaA4
import Derived.KernelRfl
set_option linter.unusedVariables false
set_option linter.unusedSimpArgs false
namespace Go.Proofs.Ytjfjdgjhihgdkaa.V
open Go Go.RowKit
def clean (nm:List Nat)(L:SL):SL:=match nm with
 |[]=>L
 |nm=>L.map fun p=>bif p.2.hasN nm then(p.1,Slot.hole)else p
def putX :SL→SL→SL
 |L,[]=>L
 |L,p::ws=>putX (p::L) ws
def aft (L:SL)(ex:Ex):SL:=putX (clean ex.nm L) ex.ws
def cl1 (nm:List Nat)(s:Slot):Slot:=bif s.hasN nm then Slot.hole else s
theorem a16 (nm:List Nat):∀(L:SL) (k:Nat),look (L.map fun p=>bif p.2.hasN nm then(p.1,Slot.hole)else p) k=cl1 nm (look L k)
 |[],k=>by
  have:Slot.hasN nm (.one (.lf .hole))=false:=by unfold Slot.hasN;rw[List.any_eq_false];intro b _;simp[Slot.has,Part.has,Leaf.has]
  simp[look,cl1,this]
 |(k0,s)::r,k=>by
  have ih:=a16 nm r k
  simp only[List.map_cons]at ih⊢
  cases hb:s.hasN nm with
  |true=>
   simp only[cond_true]
   rw[n5,n5]
   by_cases e:k=k0
   ·simp[e,hb,cl1]
   ·simp only[if_neg e];exact ih
  |false=>
   simp only[cond_false]
   rw[n5,n5]
   by_cases e:k=k0
   ·simp[e,hb,cl1]
   ·simp only[if_neg e];exact ih
theorem a1t (s:Slot):s.hasN []=false:=rfl
theorem p5 (nm:List Nat)(L:SL)(k:Nat):look (clean nm L) k=cl1 nm (look L k):=by
 cases nm with
 |nil=>rfl
 |cons b bs=>exact a16 (b::bs) L k
theorem Leaf.firm_of {l:Leaf}(h:l.has apN=false):l.firm=true:=by
 cases l with
 |ap b c e sz rows=>simp only[Leaf.has,Bool.or_eq_false_iff]at h;have h2:=h.2;simp at h2
 |_=>rfl
variable {ls:List Leaf}
theorem Leaf.firm_all (h:ls.any (Leaf.has apN)=false):ls.all Leaf.firm=true:=List.all_eq_true.2 fun l hl=>Leaf.firm_of (by rw[List.any_eq_false]at h;simpa using h l hl)
variable {ν:Nm}
theorem a10 {p:Part}(h:p.has apN=false):(renP ν p).firm=true:=by
 cases p with
 |lf l=>exact a2k (Leaf.firm_of h)
 |agg ls=>exact S4 (Leaf.firm_all h)
variable {s:Slot}
theorem a5e (h:s.has apN=false):(renS ν s).firm=true:=by
 cases s with
 |one p=>exact a10 h
 |tup ps=>
  simp only[Slot.has,List.any_eq_false]at h
  simp only[renS,Slot.firm,List.all_map]
  exact List.all_eq_true.2 fun p hp=>a10 (by simpa using h p hp)
 |cell b ls=>simp only[Slot.has,Bool.or_eq_false_iff]at h;exact u7 (Leaf.firm_all h.2)
 |obj b T e s=>
  simp only[renS]
  cases ν b<;>rfl
 |own b ls bs=>simp only[Slot.has,Bool.or_eq_false_iff]at h;exact u7 (Leaf.firm_all h.2.1)
theorem a0K (ν v:Nm)(nm:List Nat)(L:SL):Weak (sweep nm (den ν L)) (den (setN ν nm v) (clean nm L)):=by
 intro k
 simp only[den]
 rw[p5]
 unfold cl1
 cases h:(look L k).hasN nm with
 |true=>right;rfl
 |false=>
  left
  simp only[cond_false]
  rw[a3w (a3M h)]
  cases ha:inN nm apN with
  |false=>simp only[sweep,ha,cond_false,den]
  |true=>
   rw[I6 _ _ ha]
   have hf:(renS ν (look L k)).firm=true:=a5e (a3M h _ (u2.1 ha))
   simp only[still,den,hf,cond_true]
theorem o1 (ν:Nm)(k:Nat)(s:Slot)(L:SL):den ν ((k,s)::L)=upd (den ν L) k (renS ν s):=by
 funext k'
 simp only[den,n5,upd]
 split<;>rfl
theorem a1d (ν:Nm):∀(ws L:SL),den ν (putX L ws)=updL (den ν L) (renW ν ws)
 |[],L=>rfl
 |(k,s)::ws,L=>by
  simp only[putX,renW,List.map_cons,updL]
  rw[a1d ν ws,o1]
  rfl
variable {L:SL} {ex:Ex}
theorem a3J {v:Nm}{τ:St}(h:Weak τ (updL (sweep ex.nm (den ν L)) (renW (setN ν ex.nm v) ex.ws))):Weak τ (den (setN ν ex.nm v) (aft L ex)):=by
 unfold aft
 rw[a1d]
 exact h.trans (a0a _ (a0K ν v ex.nm L))
abbrev Wits :=List (Nat×Wit)
def Wits.at :Wits→Nat→Option Wit
 |[],_=>none
 |(k,w)::r,i=>bif Nat.beq i k then some w else Wits.at r i
def guardX (n:Nat)(ops:List Oper)(L:SL)(j:Nat):Option (Option Bool×Nat):=
 match ops[j]? with
 |none=>none
 |some oj=>match oj.dst with
  |none=>none
  |some d=>bif Nat.blt d n then(match look L (tk d)with
   | .one (.lf (.im _ (.bool b)))=>some (some b,d)
   | .tup []=>some (none,d)
   |_=>none)else none
def skipW (o:Oper):SL:=match o.dst with
 |some e=>[(tk e,Slot.tup [])]
 |none=>[]
def wants (want:Bool):Option Bool→Bool
 |some b=>match want with
  |true=>b
  |false=> !b
 |none=>false
def runO (P:Program)(T:Tab)(n:Nat)(ops:List Oper)(W:Wits):List Nat→SL→Option (SL×List Prop)
 |[],L=>some (L,[])
 |i::is,L=>match ops[i]? with
  |none=>none
  |some o=>match o.guard with
   |none=>match exec P T n o L (W.at i)with
    |none=>none
    |some ex=>match runO P T n ops W is (aft L ex)with
     |none=>none
     |some (L2,cs)=>some (L2,ex.c++cs)
   |some (j,want)=>match guardX n ops L j with
    |none=>none
    |some (b,d)=>match wants want b with
     |true=>match exec P T n o L (W.at i)with
      |none=>none
      |some ex=>match runO P T n ops W is (aft L ex)with
       |none=>none
       |some (L2,cs)=>some (L2,ex.c++cs)
     |false=>runO P T n ops W is (putX L (skipW o))
variable {E:Env} {n j d:Nat}
theorem X7 {ops:List Oper}{b:Option Bool}(hE:E.n=n)(h:guardX n ops L j=some (b,d)):
 ∃oj,ops[j]? =some oj∧oj.dst=some d∧d<E.n∧(∀b',b=some b'→∃sh,∀ν,den ν L (tk d)= .lf (.im sh (.bool b')))∧(b=none→∀ν,den ν L (tk d)= .tup []):=by
 unfold guardX at h
 split at h
 ·cases h
 ·rename_i oj hoj
  split at h
  ·cases h
  ·rename_i d' hd
   cases hb:Nat.blt d' n with
   |false=>rw[hb]at h;cases h
   |true=>
    rw[hb]at h
    simp only[cond_true]at h
    split at h
    ·rename_i sh b' hl
     cases h
     exact⟨oj,hoj,hd,by rw[hE];exact Nat.le_of_ble_eq_true hb,fun b1 e=>by cases e;exact⟨sh,fun ν=>by simp only[den,hl,renS,renP,renL]⟩,fun e=>by cases e⟩
    ·rename_i hl
     cases h
     exact⟨oj,hoj,hd,by rw[hE];exact Nat.le_of_ble_eq_true hb,(fun b1 e=>by cases e),fun _ ν=>by simp only[den,hl,renS,List.map_nil]⟩
    ·cases h
variable {want:Bool}
theorem a01 {b:Option Bool}(h:wants want b=true):b=some want:=by
 cases b with
 |none=>cases h
 |some b=>cases want<;>cases b<;>simp[wants]at h⊢
theorem a20 {b:Bool}(h:wants want (some b)=false):b= !want:=by cases want<;>cases b<;>simp[wants]at h⊢
theorem W3 {b:Option Bool}(h1:∀b',b=some b'→∃sh,∀ν,den ν L (tk d)= .lf (.im sh (.bool b')))(h2:b=none→∀ν,den ν L (tk d)= .tup [])(h:wants want b=false)(ν:Nm):
 Skips want (den ν L (tk d)):=by
 cases b with
 |none=>rw[h2 rfl ν];exact trivial
 |some b=>obtain⟨sh,h3⟩:=h1 b rfl;rw[h3 ν];exact a20 h
variable {P:Program} {ops:Array Oper} {i:Nat} {σ:St} {o oj:Oper}
theorem a4w {l:List Nat}{R:St→Prop}(ho:ops[i]? =some o)(hg:o.guard=some (j,want))
 (hj:ops[j]? =some oj) (hd:oj.dst=some d) (hn:d<E.n) (hs:Skips want (σ (tk d))) (hde:o.dst=none)
 (h:OpsW P E ops l σ R):OpsW P E ops (i::l) σ R:=by
 intro g w a Q hr hq
 simp only[wpOps,ho]
 rw[if_neg (by simp only[Region.wanted,hg,L4 hr hj hd hn hs];exact Bool.false_ne_true),hde]
 exact h g w a Q hr hq
theorem LOp.skip0 (ho:ops[i]? =some o)(hg:o.guard=some (j,want))
 (hj:ops[j]? =some oj) (hd:oj.dst=some d) (hn:d<E.n) (hs:Skips want (σ (tk d))) (hde:o.dst=none):
 LOp P E ops ⟨i,[tk d],[]⟩ σ:=by
 intro τ hτ g w a Q K hr hk
 simp only[wpOp,ho]
 have hs':Skips want (τ (tk d)):=by rw[hτ _ (by simp)];exact hs
 rw[if_neg (by simp only[Region.wanted,hg,L4 hr hj hd hn hs'];exact Bool.false_ne_true),hde]
 exact hk g w a hr
variable {T:Tab}
theorem a6N {is:List Nat}{w:Option Wit}{R:St→Prop}(hT:TabOK P T)(hE:E.n=n)
 (he:exec P T n o L w=some ex) (hc:AllP ex.c) (ν:Nm) (h:∀ν',ν' obN=ν obN→OpsW P E ops is (den ν' (aft L ex)) R):Step P E o (den ν L) (fun τ=>OpsW P E ops is τ R):=
 (S9 hT hE he hc ν (den ν L) (fun _ _=>rfl)).mono fun τ' ⟨v,hw⟩=>a6A (Turn.weaken (a3J hw)) fun τ e=>by subst e;exact h _ (w8 (R8 he))
theorem L6 {P:Program}{E:Env}{T:Tab}{n:Nat}{ops:Array Oper}{W:Wits}{R:St→Prop}(hT:TabOK P T)(hE:E.n=n):∀(is:List Nat) (L L2:SL) (cs:List Prop),
 runO P T n ops.toList W is L=some (L2,cs)→AllP cs→∀ν,(∀ν',ν' obN=ν obN→R (den ν' L2))→OpsW P E ops is (den ν L) R
 |[],L,L2,cs,h,_,ν,hR=>by cases h;exact a7l (hR ν rfl)
 |i::is,L,L2,cs,h,hcs,ν,hR=>by
  simp only[runO]at h
  split at h
  ·cases h
  ·rename_i o ho
   have ho':ops[i]? =some o:=by simpa using ho
   split at h
   ·rename_i hg
    split at h
    ·cases h
    ·rename_i ex hex
     split at h
     ·cases h
     ·rename_i L3 cs3 hrun
      cases h
      obtain⟨h1,h2⟩:=hcs.app
      exact a6v ho' hg (a6N hT hE hex h1 ν fun ν' hν'=>L6 hT hE is _ _ _ hrun h2 ν' fun ν2 h3=>hR ν2 (h3.trans hν')) fun τ hτ=>hτ
   ·rename_i j want hg
    split at h
    ·cases h
    ·rename_i b d hgx
     obtain⟨oj,hj,hd,hn,hs,hs0⟩:=X7 (E:=E) hE hgx
     have hj':ops[j]? =some oj:=by simpa using hj
     split at h
     ·rename_i hw
      split at h
      ·cases h
      ·rename_i ex hex
       split at h
       ·cases h
       ·rename_i L3 cs3 hrun
        cases h
        obtain⟨h1,h2⟩:=hcs.app
        obtain⟨sh,hs⟩:=hs _ (a01 hw)
        exact a4L ho' hg hj' hd hn (hs ν) rfl (a6N hT hE hex h1 ν fun ν' hν'=>L6 hT hE is _ _ _ hrun h2 ν' fun ν2 h3=>hR ν2 (h3.trans hν')) fun τ hτ=>hτ
     ·rename_i hw
      have ih:=L6 (P:=P) (E:=E) (R:=R) hT hE is _ _ _ h hcs ν hR
      rw[a1d]at ih
      unfold skipW at ih
      cases hde:o.dst with
      |none=>rw[hde]at ih;exact a4w ho' hg hj' hd hn (W3 hs hs0 hw ν) hde ih
      |some e=>rw[hde]at ih;exact a5T ho' hg hj' hd hn (W3 hs hs0 hw ν) e hde ih
structure ItS where
 i:Nat
 R:List Nat
 ws:SL
 nm:List Nat
 rs:List Slot
def ItS.keys (t:ItS):List Nat:=t.ws.map (·.1)
def aftI (L:SL)(t:ItS):SL:=putX (clean t.nm L) t.ws
def Slot.noHole :Slot→Bool
 | .one (.lf .hole)=>false
 |_=>true
def freeOf (nm:List Nat)(t:ItS):Bool:=match nm with
 |[]=>true
 |nm=>t.rs.all (fun s=> !s.hasN nm&&s.noHole)&&t.ws.all (fun p=> !p.2.hasN nm)
variable {t:ItS}
theorem O6 {nm:List Nat}(h:freeOf nm t=true):(∀s∈t.rs,s.hasN nm=false∧(nm=[]∨s.noHole=true))∧∀p∈t.ws,p.2.hasN nm=false:=by
 unfold freeOf at h
 cases nm with
 |nil=>exact⟨fun s _=>⟨a1t s,.inl rfl⟩,fun p _=>a1t _⟩
 |cons b bs=>
  simp only[Bool.and_eq_true,List.all_eq_true,Bool.not_eq_true']at h
  exact⟨fun s hs=>⟨(h.1 s hs).1,.inr (h.1 s hs).2⟩,h.2⟩
def ItS.indep (x y:ItS):Bool:=(x.keys.all (fun k=> !y.R.contains k&& !y.keys.contains k)&&y.keys.all (fun k=> !x.R.contains k))&&(freeOf x.nm y&&freeOf y.nm x)
variable {x:ItS}
theorem ItS.indep_spec {y:ItS}(h:x.indep y=true):((∀k∈x.keys,k∉y.R)∧(∀k∈x.keys,k∉y.keys)∧(∀k∈y.keys,k∉x.R))∧freeOf x.nm y=true∧freeOf y.nm x=true:=by
 simp only[ItS.indep,Bool.and_eq_true,List.all_eq_true,Bool.not_eq_true',List.contains_eq_mem,decide_eq_false_iff_not]at h
 exact⟨⟨fun k hk=>(h.1.1 k hk).1,fun k hk=>(h.1.1 k hk).2,h.1.2⟩,h.2.1,h.2.2⟩
def LOpS (P:Program)(E:Env)(ops:Array Oper)(t:ItS)(L:SL):Prop:=
 ∀(ν:Nm) (τ:St),(∀k∈t.R,τ k=den ν L k)→∀g w a (Q:Exit→Act→World→Prop) (K:Act→World→Prop),Rel E g w a τ→
  (∀v g' w' a',Rel E g' w' a' (updL (sweep t.nm τ) (renW (setN ν t.nm v) t.ws))→K a' w')→wpOp P ops Q t.i K a w
variable {rs:List Slot}
theorem LOpS.of {R:List Nat}{ws:SL}(h:∀ν,LOp P E ops ⟨i,R,renW ν ws⟩ (den ν L)):LOpS P E ops ⟨i,R,ws,[],rs⟩ L:=
 fun ν τ hτ g w a Q K hr hk=>h ν τ hτ g w a Q K hr fun g' w' a' hr'=>hk ν g' w' a' hr'
theorem LOpS.exec (ho:ops[i]? =some o)(hg:o.guard=none)(h:SoundK P E o L ex)(hc:AllP ex.c):
 LOpS P E ops ⟨i,ex.R,ex.ws,ex.nm,rs⟩ L:=by
 intro ν τ hτ g w a Q K hr hk
 simp only[wpOp,ho]
 rw[if_pos (by simp[Region.wanted,hg])]
 exact .inl (h hc ν τ hτ g w a _ Q hr fun g' w' a' τ' ⟨v,hw⟩ hr'=>hk v g' w' a' (hr'.weaken hw))
variable {sh:Bool}
theorem LOpS.guard (ho:ops[i]? =some o)(hg:o.guard=some (j,want))
 (hj:ops[j]? =some oj) (hd:oj.dst=some d) (hn:d<E.n) (hs:∀ν,den ν L (tk d)= .lf (.im sh (.bool want))) (h:SoundK P E o L ex) (hc:AllP ex.c):
 LOpS P E ops ⟨i,tk d::ex.R,ex.ws,ex.nm,rs⟩ L:=by
 intro ν τ hτ g w a Q K hr hk
 simp only[wpOp,ho]
 have hs':τ (tk d)= .lf (.im sh (.bool want)):=(hτ _ (by simp)).trans (hs ν)
 rw[if_pos (by simp[Region.wanted,hg,R4 hr hj hd hn hs'])]
 exact .inl (h hc ν τ (fun k hk=>hτ k (by simp[hk])) g w a _ Q hr fun g' w' a' τ' ⟨v,hw⟩ hr'=>hk v g' w' a' (hr'.weaken hw))
def GoodS (P:Program)(E:Env)(ops:Array Oper):SL→List ItS→Prop
 |_,[]=>True
 |L,t::ts=>LOpS P E ops t L∧t.rs=t.R.map (look L)∧GoodS P E ops (aftI L t) ts
def finS :SL→List ItS→SL
 |L,[]=>L
 |L,t::ts=>finS (aftI L t) ts
theorem a2h (k:Nat):∀(ws L L':SL),look L k=look L' k→look (putX L ws) k=look (putX L' ws) k
 |[],L,L',h=>h
 |(k0,s)::ws,L,L',h=>by
  simp only[putX]
  refine a2h k ws _ _ ?_
  rw[n5,n5,h]
theorem o6 (k:Nat):∀(ws L:SL),k∉ws.map (·.1)→look (putX L ws) k=look L k
 |[],L,h=>rfl
 |(k0,s)::ws,L,h=>by
  simp only[List.map_cons,List.mem_cons,not_or]at h
  simp only[putX]
  rw[o6 k ws _ h.2,n5,if_neg h.1]
theorem J8 (k:Nat):∀(ws L L':SL),k∈ws.map (·.1)→look (putX L ws) k=look (putX L' ws) k
 |[],L,L',h=>by simp at h
 |(k0,s)::ws,L,L',h=>by
  simp only[putX]
  by_cases hk:k∈ws.map (·.1)
  ·exact J8 k ws _ _ hk
  ·simp only[List.map_cons,List.mem_cons]at h
   have e:k=k0:=by rcases h with h|h;exact h;exact absurd h hk
   rw[o6 k ws _ hk,o6 k ws _ hk,n5,n5,if_pos e,if_pos e]
theorem P6 (k:Nat):∀(ws L:SL),k∈ws.map (·.1)→∃p∈ws,look (putX L ws) k=p.2
 |[],L,h=>by simp at h
 |(k0,s)::ws,L,h=>by
  simp only[putX]
  by_cases hk:k∈ws.map (·.1)
  ·obtain⟨p,hp,e⟩:=P6 k ws ((k0,s)::L) hk
   exact⟨p,by simp[hp],e⟩
  ·simp only[List.map_cons,List.mem_cons]at h
   have e:k=k0:=by rcases h with h|h;exact h;exact absurd h hk
   exact⟨(k0,s),by simp,by rw[o6 k ws _ hk,n5,if_pos e]⟩
theorem a5L (nm:List Nat):Slot.hasN nm Slot.hole=false:=by unfold Slot.hasN;rw[List.any_eq_false];intro b _;simp[Slot.has,Part.has,Leaf.has]
theorem a6q (a b:List Nat)(s:Slot):cl1 a (cl1 b s)=cl1 b (cl1 a s):=by
 simp only[cl1]
 cases hx:s.hasN a<;>cases hy:s.hasN b<;>simp only[cond_true,cond_false,hx,hy,a5L]
def Leq (L L':SL):Prop:=∀k,look L k=look L' k
variable {L':SL}
theorem Leq.aft (h:Leq L L')(t:ItS):Leq (aftI L t) (aftI L' t):=fun k=>by
 unfold aftI
 exact a2h k _ _ _ (by rw[p5,p5,h k])
theorem Leq.den {L L':SL}(h:Leq L L')(ν:Nm):den ν L=den ν L':=by
 funext k;simp only[V.den,h k]
theorem LOpS.congr (h:LOpS P E ops t L)(he:∀k∈t.R,look L' k=look L k):LOpS P E ops t L':=
 fun ν τ hτ=>h ν τ fun k hk=>by rw[hτ k hk];simp only[den,he k hk]
theorem GoodS.congr :∀{its:List ItS} {L L':SL},GoodS P E ops L its→Leq L L'→GoodS P E ops L' its
 |[],L,L',_,_=>trivial
 |t::ts,L,L',⟨h1,h2,h3⟩,he=>⟨h1.congr fun k _=>(he k).symm,by rw[h2];exact List.map_congr_left fun k _=>he k,h3.congr (he.aft t)⟩
theorem a0R :∀{its:List ItS} {L L':SL},Leq L L'→Leq (finS L its) (finS L' its)
 |[],L,L',he=>he
 |t::ts,L,L',he=>a0R (its:=ts) (he.aft t)
theorem a6B (L:SL)(h1:∀k∈x.keys,k∉t.keys)(h2:freeOf x.nm t=true)(h3:freeOf t.nm x=true):Leq (aftI (aftI L x) t) (aftI (aftI L t) x):=by
 have keep:∀{a c:ItS},freeOf a.nm c=true→∀(M:SL) k,k∈c.keys→cl1 a.nm (look (putX M c.ws) k)=look (putX M c.ws) k:=by
  intro a c hf M k hk
  obtain⟨p,hp,e⟩:=P6 k c.ws M hk
  rw[e]
  simp only[cl1,(O6 hf).2 p hp,cond_false]
 intro k
 by_cases hx:k∈x.keys
 ·have ht:=h1 k hx
  have e1:look (aftI (aftI L x) t) k=cl1 t.nm (look (aftI L x) k):=by unfold aftI;rw[o6 k _ _ ht,p5]
  rw[e1]
  unfold aftI
  rw[keep h3 _ k hx]
  exact J8 k _ _ _ hx
 ·have e2:look (aftI (aftI L t) x) k=cl1 x.nm (look (aftI L t) k):=by unfold aftI;rw[o6 k _ _ hx,p5]
  rw[e2]
  by_cases ht:k∈t.keys
  ·unfold aftI
   rw[keep h2 _ k ht]
   exact J8 k _ _ _ ht
  ·unfold aftI
   rw[o6 k _ _ ht,o6 k _ _ ht,p5,p5,o6 k _ _ hx,p5,a6q]
variable {post:List ItS}
theorem GoodS.front :∀{pre:List ItS} {L:SL},GoodS P E ops L (pre++t::post)→(∀x∈pre,x.indep t=true)→
 LOpS P E ops t L∧t.rs=t.R.map (look L)∧GoodS P E ops (aftI L t) (pre++post)∧Leq (finS L (pre++t::post)) (finS (aftI L t) (pre++post))
 |[],L,h,_=>⟨h.1,h.2.1,h.2.2,fun k=>rfl⟩
 |x::pre,L,h,hi=>by
  obtain⟨h1,h2,h3⟩:=h
  obtain⟨k1,k2,k3,k4⟩:=GoodS.front h3 (fun y hy=>hi y (by simp[hy]))
  obtain⟨⟨i1,i2,i3⟩,f1,f2⟩:=ItS.indep_spec (hi x (by simp))
  have e1:∀k∈t.R,look L k=look (aftI L x) k:=by
   intro k hk
   have hm:look (aftI L x) k∈t.rs:=by rw[k2];exact List.mem_map_of_mem hk
   have hx:k∉x.keys:=fun hx=>i1 k hx hk
   have e:look (aftI L x) k=cl1 x.nm (look L k):=by unfold aftI;rw[o6 k _ _ hx,p5]
   rw[e]at hm⊢
   have hh:=((O6 f1).1 _ hm).2
   cases hb:(look L k).hasN x.nm with
   |false=>simp only[cl1,hb,cond_false]
   |true=>
    rcases hh with hh|hh
    ·rw[hh,a1t]at hb;cases hb
    ·simp[cl1,hb,Slot.noHole]at hh
  have e2:∀k∈x.R,look (aftI L t) k=look L k:=by
   intro k hk
   have hm:look L k∈x.rs:=by rw[h2];exact List.mem_map_of_mem hk
   have ht:k∉t.keys:=fun ht=>i3 k ht hk
   unfold aftI
   rw[o6 k _ _ ht,p5]
   simp only[cl1,((O6 f2).1 _ hm).1,cond_false]
  have hc:=a6B L i2 f1 f2
  refine⟨k1.congr e1,?_,⟨h1.congr e2,?_,k3.congr hc⟩,?_⟩
  ·rw[k2];exact List.map_congr_left fun k hk=>(e1 k hk).symm
  ·rw[h2];exact List.map_congr_left fun k hk=>(e2 k hk).symm
  ·intro k
   simp only[List.cons_append,finS]
   rw[k4 k,a0R hc k]
def ClosedL (ops:Array Oper)(listed:Array Bool):Prop:=∀i o,listed.getD i false=true→ops[i]? =some o→∀e∈o.after,Region.binds .any e=true→listed.getD e.on false=true
def edgeMask (ms:List Nat):List Edge→Nat
 |[]=>0
 |e::es=>bif Region.binds .any e then Nat.lor (Nat.lor (2^e.on) (ms.getD e.on 0)) (edgeMask ms es)else edgeMask ms es
def masksO :List Oper→List Nat→List Nat
 |[],ms=>ms
 |o::os,ms=>masksO os (ms++[edgeMask ms o.after.toList])
def MaskOK (ops:Array Oper)(ms:List Nat):Prop:=∀(listed:Array Bool),ClosedL ops listed→∀(i m:Nat) (o:Oper),ms[i]? =some m→ops[i]? =some o→(∀e∈o.after,Region.binds .any e=true→listed.getD e.on false=true)→
 ∀j,Nat.testBit m j=true→listed.getD j false=true
theorem Y3 {ops:Array Oper}{ms:List Nat}(hms:MaskOK ops ms)(hlen:ms.length≤ops.size){listed:Array Bool}(hc:ClosedL ops listed):∀{es:List Edge},(∀e∈es,Region.binds .any e=true→listed.getD e.on false=true)→∀j,Nat.testBit (edgeMask ms es) j=true→listed.getD j false=true
 |[],_,j,h=>by simp[edgeMask]at h
 |e::es,hl,j,h=>by
  have ih:=Y3 hms hlen hc (es:=es) (fun e' he=>hl e' (List.mem_cons_of_mem _ he)) j
  simp only[edgeMask]at h
  cases hb:Region.binds .any e with
  |false=>rw[hb]at h;exact ih h
  |true=>
   rw[hb]at h
   have hon:=hl e (by simp) hb
   simp only[cond_true]at h
   have h2:Nat.testBit ((2^e.on|||ms.getD e.on 0)|||edgeMask ms es) j=true:=h
   rw[Nat.testBit_or,Nat.testBit_or,Bool.or_eq_true,Bool.or_eq_true]at h2
   rcases h2 with(h2|h2)|h2
   ·rw[Nat.testBit_two_pow]at h2
    have:e.on=j:=by simpa using h2
    rw[←this];exact hon
   ·rw[List.getD_eq_getElem?_getD]at h2
    cases hm:ms[e.on]? with
    |none=>rw[hm]at h2;simp at h2
    |some m=>
     rw[hm]at h2
     have hlt:e.on<ops.size:=Nat.lt_of_lt_of_le (List.getElem?_eq_some_iff.1 hm).1 hlen
     exact hms listed hc e.on m _ hm (Array.getElem?_eq_getElem hlt) (fun e' he' hb'=>hc e.on _ hon (Array.getElem?_eq_getElem hlt) e' he' hb') j h2
   ·exact ih h2
theorem a2d {ops:Array Oper}:∀{os:List Oper} {ms:List Nat},MaskOK ops ms→ops.toList.drop ms.length=os→MaskOK ops (masksO os ms)
 |[],ms,h,_=>h
 |o::os,ms,h,hd=>by
  have hlt:ms.length<ops.toList.length:=by
   apply Classical.byContradiction;intro hge
   rw[List.drop_of_length_le (by omega)]at hd;cases hd
  rw[List.drop_eq_getElem_cons hlt]at hd
  obtain⟨h1,h2⟩:=List.cons.inj hd
  refine a2d (ms:=ms++[edgeMask ms o.after.toList]) ?_ (by rw[List.length_append];exact h2)
  intro listed hc i m o' hi ho' hall j hj
  rw[List.getElem?_append]at hi
  split at hi
  ·exact h listed hc i m o' hi ho' hall j hj
  ·rename_i hge
   have hi0:i=ms.length:=by
    have:=(List.getElem?_eq_some_iff.1 hi).1
    simp at this;omega
   subst hi0
   rw[Nat.sub_self]at hi
   cases hi
   have e0:o'=o:=by
    rw[←Array.getElem?_toList,List.getElem?_eq_getElem hlt,h1]at ho'
    exact(Option.some.inj ho').symm
   subst e0
   exact Y3 h (by have:=hlt;simp only[Array.length_toList]at this;omega) hc (fun e he hb=>hall e (by simpa using he) hb) j hj
def orderM (ms:List Nat):List ItS→Bool
 |[]=>true
 |x::ts=>ts.all (fun y=>x.indep y||Nat.testBit (ms.getD y.i 0) x.i)&&orderM ms ts
def orderS (ops:Array Oper)(its:List ItS):Bool:=orderM (masksO ops.toList []) its
theorem a03 {ms:List Nat}:∀{pre:List ItS} {t:ItS} {post:List ItS},orderM ms (pre++t::post)=true→∀x∈pre,x.indep t=true∨Nat.testBit (ms.getD t.i 0) x.i=true
 |[],t,post,_,x,hx=>by cases hx
 |y::pre,t,post,h,x,hx=>by
  simp only[List.cons_append,orderM,Bool.and_eq_true,List.all_eq_true,Bool.or_eq_true]at h
  rcases List.mem_cons.1 hx with rfl|hx
  ·exact h.1 t (by simp)
  ·exact a03 h.2 x hx
theorem a0g {ms:List Nat}:∀{pre:List ItS} {t:ItS} {post:List ItS},orderM ms (pre++t::post)=true→orderM ms (pre++post)=true
 |[],t,post,h=>by simp only[List.nil_append,orderM,Bool.and_eq_true]at h;exact h.2
 |y::pre,t,post,h=>by
  simp only[List.cons_append,orderM,Bool.and_eq_true,List.all_eq_true]at h⊢
  exact⟨fun z hz=>h.1 z (by simp at hz⊢;rcases hz with hz|hz<;>simp[hz]),a0g h.2⟩
variable {pre:List ItS}
theorem a2U (h:orderS ops (pre++t::post)=true):orderS ops (pre++post)=true:=a0g h
theorem a25 (h:orderS ops (pre++t::post)=true)(hx:x∈pre){listed:Array Bool}(hc:ClosedL ops listed)(ho:ops[t.i]? =some o)
 (hall:∀e∈o.after,Region.binds .any e=true→listed.getD e.on false=true):x.indep t=true∨listed.getD x.i false=true:=by
 rcases a03 h x hx with h1|h1
 ·exact .inl h1
 ·right
  have hok:MaskOK ops (masksO ops.toList []):=a2d (os:=ops.toList) (ms:=[]) (fun _ _ i m o hi=>by simp at hi) rfl
  rw[List.getD_eq_getElem?_getD]at h1
  cases hm:(masksO ops.toList [])[t.i]? with
  |none=>rw[hm]at h1;simp at h1
  |some m=>rw[hm]at h1;exact hok listed hc t.i m o hm ho hall x.i h1
theorem a3k {Q:Exit→Act→World→Prop}:∀(fuel:Nat) (its:List ItS) (listed:Array Bool) (ν:Nm) (L:SL) (g:Nat→Tag) (w:World) (a:Act),its.length≤fuel→
 Rel E g w a (den ν L)→GoodS P E ops L its→orderS ops its=true→(∀i,listed.getD i true=false↔∃t∈its,t.i=i)→(its.map (·.i)).Nodup→
 (∀t∈its,t.i<ops.size)→
 (∀t∈its,obN∉t.nm)→(∀ν' g' w' a',ν' obN=ν obN→Rel E g' w' a' (den ν' (finS L its))→Q .normal a' w')→(∀t∈its,∀o,ops[t.i]? =some o→∀e∈o.after,Region.binds .any e=true→e.on<t.i∧(listed.getD e.on false=true∨∃x∈its,x.i=e.on))→
 (its.map (·.i)).Pairwise (·<·)→ClosedL ops listed→wpAny P .any ops Q fuel listed a w:=by
 intro fuel
 induction fuel with
 |zero=>
  intro its listed ν L g w a hl hr hgood hok hlist hnd hlt hkp hQ hafter hsorted hcl
  obtain rfl:=List.length_eq_zero_iff.1 (Nat.le_zero.1 hl)
  refine⟨?_,hQ ν g w a rfl hr⟩
  apply List.eq_nil_iff_forall_not_mem.2
  intro j hj
  obtain⟨h1,_⟩:=mem_ready.1 hj
  obtain⟨t,ht,_⟩:=(hlist j).1 h1
  cases ht
 |succ fuel ih=>
  intro its listed ν L g w a hl hr hgood hok hlist hnd hlt hkp hQ hafter hsorted hcl
  refine⟨?_,?_⟩
  ·intro hready
   cases its with
   |nil=>exact hQ ν g w a rfl hr
   |cons t ts=>
    exfalso
    have hj:t.i∈Region.ready .any ops listed:=by
     refine mem_ready.2 ⟨(hlist t.i).2 ⟨t,by simp,rfl⟩,?_⟩
     have hlt':=hlt t (by simp)
     refine⟨ops[t.i],Array.getElem?_eq_getElem hlt',fun e he hbd=> ?_⟩
     obtain⟨h1,h2⟩:=hafter t (by simp) _ (Array.getElem?_eq_getElem hlt') e he hbd
     rcases h2 with h2|⟨x,hx,hxe⟩
     ·exact h2
     ·exfalso
      rcases List.mem_cons.1 hx with rfl|hx
      ·omega
      ·simp only[List.map_cons,List.pairwise_cons]at hsorted
       have:=hsorted.1 x.i (List.mem_map.2 ⟨x,hx,rfl⟩)
       omega
    rw[hready]at hj
    cases hj
  ·intro j hj
   obtain⟨h1,o,ho,hall⟩:=mem_ready.1 hj
   obtain⟨t,ht,rfl⟩:=(hlist j).1 h1
   obtain⟨pre,post,rfl⟩:=List.append_of_mem ht
   have hind:∀x∈pre,x.indep t=true:=by
    intro x hx
    rcases a25 hok hx hcl ho hall with h|this
    ·exact h
    ·exfalso
     have h2:=(hlist x.i).2 ⟨x,by simp[hx],rfl⟩
     rw[Array.getD_eq_getD_getElem?]at this h2
     cases hq:listed[x.i]? with
     |none=>rw[hq]at h2;cases h2
     |some b=>rw[hq]at h2 this;simp at h2 this;rw[h2]at this;cases this
   obtain⟨f1,-,f2,f3⟩:=GoodS.front hgood hind
   refine f1 ν (den ν L) (fun _ _=>rfl) g w a Q _ hr fun v g' w' a' hr0=> ?_
   have hr':Rel E g' w' a' (den (setN ν t.nm v) (aftI L t)):=hr0.weaken (a3J (ex:=⟨t.R,t.ws,t.nm,[]⟩) (Weak.refl _))
   have hmem:∀x,x∈pre++post↔(x∈pre++t::post∧x.i≠t.i):=by
    intro x
    simp only[List.map_append,List.map_cons]at hnd
    have hn2:=List.nodup_append.1 hnd
    constructor
    ·intro hx
     refine⟨by simp at hx⊢;rcases hx with hx|hx<;>simp[hx],fun e=> ?_⟩
     rcases List.mem_append.1 hx with hx|hx
     ·exact hn2.2.2 x.i (List.mem_map.2 ⟨x,hx,rfl⟩) t.i (by simp) e
     ·have:=(List.nodup_cons.1 hn2.2.1).1
      exact this (List.mem_map.2 ⟨x,hx,e⟩)
    ·rintro⟨hx,hne⟩
     simp at hx⊢
     rcases hx with hx|hx|hx
     ·exact .inl hx
     ·subst hx;exact absurd rfl hne
     ·exact .inr hx
   have hset:∀i,i≠t.i→(listed.setIfInBounds t.i true).getD i true=listed.getD i true:=by
    intro i hi;rw[Array.getD_eq_getD_getElem?,Array.getD_eq_getD_getElem?,Array.getElem?_setIfInBounds_ne (fun e=>hi e.symm)]
   have hself:(listed.setIfInBounds t.i true).getD t.i true=true:=by
    rw[Array.getD_eq_getD_getElem?,Array.getElem?_setIfInBounds]
    simp only[if_true]
    split<;>rfl
   refine ih (pre++post) _ (setN ν t.nm v) (aftI L t) g' w' a' (by simp at hl⊢;omega) hr' f2 (a2U hok) ?_ ?_ (fun x hx=>hlt x ((hmem x).1 hx).1) (fun x hx=>hkp x ((hmem x).1 hx).1) (fun ν' g' w' a' hν' h=>hQ ν' g' w' a' (hν'.trans (w8 (hkp t (by simp)))) (by rw[f3.den ν'];exact h)) ?_ ?_ ?_
   ·intro i
    by_cases hi:i=t.i
    ·subst hi
     rw[hself]
     constructor
     ·intro h;cases h
     ·rintro⟨x,hx,e⟩;exact absurd e ((hmem x).1 hx).2
    ·rw[hset i hi,hlist i]
     constructor
     ·rintro⟨x,hx,rfl⟩;exact⟨x,(hmem x).2 ⟨hx,hi⟩,rfl⟩
     ·rintro⟨x,hx,rfl⟩;exact⟨x,((hmem x).1 hx).1,rfl⟩
   ·exact hnd.sublist (List.Sublist.map _ (List.Sublist.append_left (List.sublist_cons_self _ _) _))
   ·intro x hx o' ho' e he hbd
    obtain⟨h3,h4⟩:=hafter x ((hmem x).1 hx).1 o' ho' e he hbd
    refine⟨h3,?_⟩
    by_cases hi:e.on=t.i
    ·left
     rw[hi,Array.getD_eq_getD_getElem?,Array.getElem?_setIfInBounds]
     simp only[if_true]
     have:t.i<listed.size:=by
      have h5:=(hlist t.i).2 ⟨t,by simp,rfl⟩
      rw[Array.getD_eq_getD_getElem?]at h5
      cases hq:listed[t.i]? with
      |none=>rw[hq]at h5;cases h5
      |some b=>exact(Array.getElem?_eq_some_iff.1 hq).1
     simp[this]
    ·rcases h4 with h4|⟨y,hy,hye⟩
     ·left
      rw[Array.getD_eq_getD_getElem?,Array.getElem?_setIfInBounds_ne (fun e=>hi e.symm),←Array.getD_eq_getD_getElem?];exact h4
     ·exact .inr ⟨y,(hmem y).2 ⟨hy,by rw[hye];exact hi⟩,hye⟩
   ·exact hsorted.sublist (List.Sublist.map _ (List.Sublist.append_left (List.sublist_cons_self _ _) _))
   ·intro i o' hi ho' e he hbd
    have keep:∀k,listed.getD k false=true→(listed.setIfInBounds t.i true).getD k false=true:=by
     intro k hk
     rw[Array.getD_eq_getD_getElem?]at hk⊢
     rw[Array.getElem?_setIfInBounds]
     by_cases e0:t.i=k
     ·subst e0
      cases hq:listed[t.i]? with
      |none=>rw[hq]at hk;cases hk
      |some b=>simp[(Array.getElem?_eq_some_iff.1 hq).1]
     ·rw[if_neg e0];exact hk
    by_cases e0:i=t.i
    ·subst e0
     rw[ho]at ho'
     cases ho'
     exact keep _ (hall e he hbd)
    ·rw[Array.getD_eq_getD_getElem?,Array.getElem?_setIfInBounds_ne (fun e=>e0 e.symm),←Array.getD_eq_getD_getElem?]at hi
     exact keep _ (hcl i o' hi ho' e he hbd)
def edgesBackS (ops:Array Oper):Bool:=(List.range ops.size).all fun i=>((ops[i]?).map fun o=>o.after.all fun e=> !Region.binds .any e||decide (e.on<i)).getD true
variable {id:Nat}
theorem X2 {R:Exit→St→Prop}(hm:P.follows .mixedOrders=true)(its:List ItS)(hi:its.map (·.i)=List.range ops.size)
 (hgood:GoodS P E ops L its) (hok:orderS ops its=true) (hb:edgesBackS ops=true) (hkp:∀t∈its,obN∉t.nm) (hR:∀ν',ν' obN=ν obN→R .normal (den ν' (finS L its))):VW P E (.region id ops true) (den ν L) R:=by
 intro g w a Q hr hq
 refine wp_region_any hm ?_
 have hmem:∀i,(∃t∈its,t.i=i)↔i<ops.size:=by
  intro i
  have:i∈its.map (·.i)↔i<ops.size:=by rw[hi,List.mem_range]
  rw[←this,List.mem_map]
 refine a3k ops.size its _ ν L g _ a ?_ (hr.world rfl rfl rfl (Nat.le_refl _) fun _ _=> .inl rfl) hgood hok ?_ ?_ ?_ hkp (fun ν' g' w' a' hν' hr'=>hq _ g' w' a' _ (hR ν' hν') hr') ?_ ?_ ?_
 ·have:=congrArg List.length hi
  simp at this;omega
 ·intro i
  rw[hmem i,Array.getD_eq_getD_getElem?,Array.getElem?_replicate]
  by_cases h:i<ops.size
  ·simp[h]
  ·simp[h]
 ·rw[hi];exact List.nodup_range
 ·intro t ht;exact(hmem t.i).1 ⟨t,ht,rfl⟩
 ·intro t ht o ho e he hbd
  have hlt:=(hmem t.i).1 ⟨t,ht,rfl⟩
  have hb':=List.all_eq_true.1 hb t.i (List.mem_range.2 hlt)
  rw[ho]at hb'
  simp only[Option.map_some,Option.getD_some,Array.all_eq_true,Bool.or_eq_true,Bool.not_eq_true',decide_eq_true_eq]at hb'
  obtain⟨n,hn,rfl⟩:=Array.mem_iff_getElem.1 he
  have:=(hb' n hn).resolve_left (by rw[hbd];exact Bool.noConfusion)
  exact⟨this,.inr ((hmem _).2 (by omega))⟩
 ·rw[hi];exact List.pairwise_lt_range
 ·intro i o h ho
  rw[Array.getD_eq_getD_getElem?,Array.getElem?_replicate]at h
  split at h<;>cases h
def runD (P:Program)(T:Tab)(n:Nat)(ops:List Oper)(W:Wits):List Nat→SL→Option (SL×List Prop×List ItS)
 |[],L=>some (L,[],[])
 |i::is,L=>match ops[i]? with
  |none=>none
  |some o=>match o.guard with
   |none=>match exec P T n o L (W.at i)with
    |some ex=>match runD P T n ops W is (aft L ex)with
     |none=>none
     |some (L2,cs,its)=>some (L2,ex.c++cs,⟨i,ex.R,ex.ws,ex.nm,ex.R.map (look L)⟩::its)
    |none=>none
   |some (j,want)=>match guardX n ops L j with
    |none=>none
    |some (b,d)=>match wants want b with
     |true=>match exec P T n o L (W.at i)with
      |some ex=>match runD P T n ops W is (aft L ex)with
       |none=>none
       |some (L2,cs,its)=>some (L2,ex.c++cs,⟨i,tk d::ex.R,ex.ws,ex.nm,(tk d::ex.R).map (look L)⟩::its)
      |none=>none
     |false=>match runD P T n ops W is (putX L (skipW o))with
      |none=>none
      |some (L2,cs,its)=>some (L2,cs,⟨i,[tk d],skipW o,[],[tk d].map (look L)⟩::its)
theorem K6 {P:Program}{E:Env}{T:Tab}{n:Nat}{ops:Array Oper}{W:Wits}(hT:TabOK P T)(hE:E.n=n):∀(is:List Nat) (L L2:SL) (cs:List Prop) (its:List ItS),
 runD P T n ops.toList W is L=some (L2,cs,its)→AllP cs→GoodS P E ops L its∧finS L its=L2∧its.map (·.i)=is∧∀t∈its,obN∉t.nm
 |[],L,L2,cs,its,h,_=>by cases h;exact⟨trivial,rfl,rfl,fun t ht=>by cases ht⟩
 |i::is,L,L2,cs,its,h,hcs=>by
  simp only[runD]at h
  split at h
  ·cases h
  ·rename_i o ho
   have ho':ops[i]? =some o:=by simpa using ho
   split at h
   ·rename_i hg
    split at h
    ·rename_i ex hex
     split at h
     ·cases h
     ·rename_i L3 cs3 its3 hrun
      cases h
      obtain⟨h1,h2⟩:=hcs.app
      obtain⟨k1,k2,k3,k4⟩:=K6 (P:=P) (E:=E) hT hE is _ _ _ _ hrun h2
      exact⟨⟨LOpS.exec ho' hg (S9 hT hE hex) h1,rfl,k1⟩,k2,by simp[k3],fun t ht=>by
       rcases List.mem_cons.1 ht with rfl|ht
       ·exact R8 hex
       ·exact k4 t ht⟩
    ·cases h
   ·rename_i j want hg
    split at h
    ·cases h
    ·rename_i b d hgx
     obtain⟨oj,hj,hd,hn,hs,hs0⟩:=X7 (E:=E) hE hgx
     have hj':ops[j]? =some oj:=by simpa using hj
     split at h
     ·rename_i hw
      split at h
      ·rename_i ex hex
       split at h
       ·cases h
       ·rename_i L3 cs3 its3 hrun
        cases h
        obtain⟨h1,h2⟩:=hcs.app
        obtain⟨k1,k2,k3,k4⟩:=K6 (P:=P) (E:=E) hT hE is _ _ _ _ hrun h2
        obtain⟨sh,hs⟩:=hs _ (a01 hw)
        exact⟨⟨LOpS.guard ho' hg hj' hd hn hs (S9 hT hE hex) h1,rfl,k1⟩,k2,by simp[k3],fun t ht=>by
         rcases List.mem_cons.1 ht with rfl|ht
         ·exact R8 hex
         ·exact k4 t ht⟩
      ·cases h
     ·rename_i hw
      split at h
      ·cases h
      ·rename_i L3 cs3 its3 hrun
       cases h
       obtain⟨k1,k2,k3,k4⟩:=K6 (P:=P) (E:=E) hT hE is _ _ _ _ hrun hcs
       refine⟨⟨LOpS.of fun ν=> ?_,rfl,k1⟩,k2,by simp[k3],fun t ht=>by
        rcases List.mem_cons.1 ht with rfl|ht
        ·exact fun h=>by cases h
        ·exact k4 t ht⟩
       unfold skipW
       cases hde:o.dst with
       |none=>exact LOp.skip0 ho' hg hj' hd hn (W3 hs hs0 hw ν) hde
       |some e=>exact LOp.skip ho' hg hj' hd hn (W3 hs hs0 hw ν) hde
def flatC :List Prop→List Prop
 |[]=>[]
 |x::xs=>x::flatC xs
theorem a3A :∀cs,flatC cs=cs
 |[]=>rfl
 |x::xs=>by rw[flatC,a3A xs]
def runR (P:Program)(T:Tab)(n:Nat)(ops:Array Oper)(dr:Bool)(W:Wits)(L:SL)(keys:List Nat):Option (SL×List Prop):=
 match dr with
 |false=>match runO P T n ops.toList W (List.range ops.size) L with
  |some (L2,cs)=>some (keys.map fun k=>(k,look L2 k),flatC cs)
  |none=>none
 |true=>match runD P T n ops.toList W (List.range ops.size) L with
  |some (L2,cs,its)=>bif orderS ops its&&edgesBackS ops then some (keys.map fun k=>(k,look L2 k),flatC cs)else none
  |none=>none
theorem P8 (ν:Nm)(L:SL):∀(keys:List Nat),Weak (den ν L) (den ν (keys.map fun k=>(k,look L k)))
 |[],k=> .inr rfl
 |k0::keys,k=>by
  have ih:=P8 ν L keys k
  simp only[den,List.map_cons,n5]at ih⊢
  by_cases e:k=k0
  ·subst e;left;simp
  ·rw[if_neg e];exact ih
structure XW (P:Program)(E:Env)(c:Code)(L:SL)(R:Exit→SL→Prop):Prop where
 run:∀ν,VW P E c (den ν L) fun e τ=>∃ν' L',R e L'∧Weak τ (den ν' L')∧ν' obN=ν obN
structure Cx (P:Program)(T:Tab)(n:Nat)(E:Env):Prop where
 tab:TabOK P T
 n:E.n=n
 mixed:P.follows .mixedOrders=true
variable {dr:Bool} {cs:List Prop} {R:Exit→SL→Prop}
theorem Y4 {W:Wits}(c:Cx P T n E)
 (hcs:AllP cs) (h:runR P T n ops dr W L (L'.map Prod.fst)=some (L',cs)) (hR:R .normal L'):XW P E (.region id ops dr) L R:=by
 constructor
 intro ν
 unfold runR at h
 simp only[a3A]at h
 split at h
 ·split at h
  ·rename_i L2 cs2 hrun
   simp only[Option.some.injEq,Prod.mk.injEq]at h
   obtain⟨h1,rfl⟩:=h
   refine a4Z (L6 c.tab c.n _ L L2 cs2 hrun hcs ν fun ν' hν'=> ?_)
   refine⟨ν',L',hR,?_,hν'⟩
   have:=P8 ν' L2 (L'.map Prod.fst)
   rwa[h1]at this
  ·cases h
 ·split at h
  ·rename_i L2 cs2 its hrun
   cases hb:orderS ops its&&edgesBackS ops with
   |false=>rw[hb]at h;cases h
   |true=>
    rw[hb]at h
    simp only[cond_true,Option.some.injEq,Prod.mk.injEq]at h
    obtain⟨h1,rfl⟩:=h
    rw[Bool.and_eq_true]at hb
    obtain⟨k1,k2,k3,k4⟩:=K6 (P:=P) (E:=E) c.tab c.n _ _ _ _ _ hrun hcs
    refine X2 c.mixed its k3 k1 hb.1 hb.2 k4 fun ν' hν'=>⟨ν',L',hR,?_,hν'⟩
    rw[k2]
    have:=P8 ν' L2 (L'.map Prod.fst)
    rwa[h1]at this
  ·cases h
def seqX (next:SL→Prop)(R:Exit→SL→Prop):Exit→SL→Prop
 | .normal,L=>next L
 |e,L=>R e L
variable {y:Code}
theorem b9 {x:Code}(h:XW P E x L (seqX (fun L'=>XW P E y L' R) R)):XW P E (.seq x y) L R:=by
 constructor
 intro ν
 refine vw_seq ((h.run ν).mono fun e τ hh=> ?_)
 obtain⟨ν',L',h1,h2,h3⟩:=hh
 cases e with
 |normal=>exact D8 (Turn.weaken h2) fun τ' e0=>by subst e0;exact(XW.run h1 ν').mono fun e τ ⟨ν2,L2,k1,k2,k3⟩=>⟨ν2,L2,k1,k2,k3.trans h3⟩
 |_=>exact⟨ν',L',h1,h2,h3⟩
theorem vx (c:Cx P T n E)(L':SL)(W:Wits)
 (hcs:AllP cs) (h:runR P T n ops dr W L (L'.map Prod.fst)=some (L',cs)) (hy:XW P E y L' R):XW P E (.seq (.region id ops dr) y) L R:=b9 (Y4 c hcs h hy)
theorem vxe (c:Cx P T n E)(L':SL)(W:Wits)
 (hcs:AllP cs) (h:runR P T n ops dr W L (L'.map Prod.fst)=some (L',cs)) (hR:R .normal L'):XW P E (.region id ops dr) L R:=Y4 c hcs h hR
theorem c5 (h:R .normal L):XW P E .skip L R:=⟨fun ν=>a7n ⟨ν,L,h,Weak.refl _,rfl⟩⟩
theorem a6I (h:R .ret L):XW P E .ret L R:=⟨fun ν=>vw_ret ⟨ν,L,h,Weak.refl _,rfl⟩⟩
theorem n4 (h:R (.exit id) L):XW P E (.exit id) L R:=⟨fun ν=>a7c ⟨ν,L,h,Weak.refl _,rfl⟩⟩
theorem a1c {c:Operand}{x:Code}(b:Bool)(hc:ox L c= .one (.lf (.im sh (.bool b))))
 (ht:b=true→XW P E x L R) (hf:b=false→XW P E y L R):XW P E (.cond c x y) L R:=⟨fun ν=>
 a7k (b:=b) (sh:=sh) (o8 (R:=ok c) (ν:=ν) (L:=L) (fun _ _=>rfl) (fun _ h=>h) hc) (fun e=>(ht e).run ν) (fun e=>(hf e).run ν)⟩
def blockX (id:Nat)(R:Exit→SL→Prop):Exit→SL→Prop
 | .exit i,L=>match Nat.beq i id with
  |true=>R .normal L
  |false=>R (.exit i) L
 |e,L=>R e L
variable {c:Code}
theorem c8 (h:XW P E c L (blockX id R)):XW P E (.block id c) L R:=by
 constructor
 intro ν
 refine a56 ((h.run ν).mono fun e τ hh=> ?_)
 obtain⟨ν',L',h1,h2,h3⟩:=hh
 cases e with
 |exit i=>
  simp only[blockX]at h1
  simp only[blockR]
  cases hb:Nat.beq i id with
  |true=>rw[hb]at h1;rw[if_pos (Nat.eq_of_beq_eq_true hb)];exact⟨ν',L',h1,h2,h3⟩
  |false=>rw[hb]at h1;rw[if_neg (Nat.ne_of_beq_eq_false hb)];exact⟨ν',L',h1,h2,h3⟩
 |_=>exact⟨ν',L',h1,h2,h3⟩
theorem a48 (I:Nat→SL→Prop)(n:Nat)(h0:I n L)
 (round:∀n L,I n L→XW P E c L (seqX (fun L'=>∃m,m<n∧I m L') R)):XW P E (.loop c) L R:=by
 constructor
 intro ν
 refine a7j (fun n τ=>∃ν' L',I n L'∧Weak τ (den ν' L')∧ν' obN=ν obN) n ⟨ν,L,h0,Weak.refl _,rfl⟩ fun n τ hh=> ?_
 obtain⟨ν',L',h1,h2,h5⟩:=hh
 refine D8 (Turn.weaken h2) fun τ' e0=> ?_
 subst e0
 refine((round n L' h1).run ν').mono fun e τ hh=> ?_
 obtain⟨ν2,L2,h3,h4,h6⟩:=hh
 cases e with
 |normal=>obtain⟨m,hm,hi⟩:=h3;exact⟨m,hm,ν2,L2,hi,h4,h6.trans h5⟩
 |_=>exact⟨ν2,L2,h3,h4,h6.trans h5⟩
theorem XW.mono {R':Exit→SL→Prop}(h:XW P E c L R)(hR:∀e L',R e L'→R' e L'):XW P E c L R':=⟨fun ν=>
 (h.run ν).mono fun e τ ⟨ν',L',h1,h2,h3⟩=>⟨ν',L',hR e L' h1,h2,h3⟩⟩
def frz (t:Nat)(L:SL):SL:=match look L (tk t)with
 | .one (.lf (.u b _ e sz rows))=>(tk t,.lf (.im true (.sl sz rows)))::clean [b] L
 |_=>L
theorem xw_frz (t:Nat)(L':SL)(h:frz t L=L')(hc:XW P E c L' R):XW P E c L R:=by
 subst h
 constructor
 intro ν
 unfold frz at hc
 split at hc
 ·rename_i b cc e sz rows hl
  have hk:den ν L (tk t)=renS ν (.one (.lf (.u b cc e sz rows))):=by simp only[den,hl]
  simp only[renS,renP,renL]at hk
  refine D8 (M:=(·=den ν ((tk t,Slot.lf (.im true (.sl sz rows)))::clean [b] L))) ?_ fun τ e0=>by subst e0;exact hc.run ν
  have hw:Weak (upd (den ν L) (tk t) (.lf (.im true (.sl sz rows)))) (den ν ((tk t,Slot.lf (.im true (.sl sz rows)))::clean [b] L)):=by
   rw[o1]
   refine z0 ?_ _ _
   intro k
   simp only[den,p5]
   unfold cl1
   cases h:(look L k).hasN [b]with
   |true=>exact .inr rfl
   |false=>exact .inl rfl
  have key:Turn E (den ν L) (·=upd (den ν L) (tk t) (.lf (.im true (.sl sz rows)))):=by
   cases hν:ν b with
   |some q=>rw[hν]at hk;exact C0 t q.1 q.2 e sz rows hk
   |none=>
    rw[hν]at hk
    cases rows with
    |nil=>exact M0 t sz hk
    |cons r rs=>exact fun g w a hr=>(z2 hr hk).elim
  exact fun g w a hr=>let⟨g',τ,e0,hr'⟩:=key g w a hr;⟨g',_,rfl,(e0▸hr').weaken hw⟩
 ·exact hc.run ν
theorem a3B (f:Slot→Slot)(hf:f Slot.hole=Slot.hole):∀(L:SL) (k:Nat),look (L.map fun p=>(p.1,f p.2)) k=f (look L k)
 |[],k=>hf.symm
 |(k0,s)::r,k=>by
  simp only[List.map_cons,n5]
  split
  ·rfl
  ·exact a3B f hf r k
def swapN (a b:Nat)(x:Nat):Nat:=bif Nat.beq x a then b else bif Nat.beq x b then a else x
theorem a2N (a b x:Nat):swapN a b (swapN a b x)=x:=by
 have h:∀y,swapN a b y=if y=a then b else if y=b then a else y:=fun y=>by
  unfold swapN
  cases h1:Nat.beq y a with
  |true=>rw[if_pos (Nat.eq_of_beq_eq_true h1)];rfl
  |false=>
   rw[if_neg (Nat.ne_of_beq_eq_false h1)]
   cases h2:Nat.beq y b with
   |true=>rw[if_pos (Nat.eq_of_beq_eq_true h2)];rfl
   |false=>rw[if_neg (Nat.ne_of_beq_eq_false h2)];rfl
 rw[h x]
 by_cases h1:x=a
 ·rw[if_pos h1,h]
  by_cases h2:b=a
  ·rw[if_pos h2,h2,h1]
  ·rw[if_neg h2,if_pos rfl,h1]
 ·rw[if_neg h1]
  by_cases h2:x=b
  ·rw[if_pos h2,h,if_pos rfl,h2]
  ·rw[if_neg h2,h,if_neg h1,if_neg h2]
def swapL (a b:Nat)(L:SL):SL:=L.map fun p=>(p.1,p.2.mapN (swapN a b))
theorem a67 (a b:Nat)(L':SL)(h:swapL a b L=L')(hc:XW P E c L' R)(ha:swapN a b obN=obN:=by rfl):XW P E c L R:=by
 subst h
 constructor
 intro ν
 have e:den (fun x=>ν (swapN a b x)) (swapL a b L)=den ν L:=by
  funext k
  simp only[den,swapL]
  rw[a3B (Slot.mapN (swapN a b)) rfl]
  exact a5H (a2N a b) _
 rw[←e]
 exact(hc.run _).mono fun e τ ⟨ν',L',h1,h2,h3⟩=>⟨ν',L',h1,h2,by rw[h3,ha]⟩
def Tu (E:Env)(L L':SL):Prop:=∀ν,Turn E (den ν L) (·=den ν L')
theorem xw_tu (L':SL)(h:Tu E L L')(hc:XW P E c L' R):XW P E c L R:=⟨fun ν=>D8 (h ν) fun τ e=>by subst e;exact hc.run ν⟩
theorem i4 {M:St→Prop}(h:∀g w a,Rel E g w a σ→False):Turn E σ M:=fun g w a hr=>(h g w a hr).elim
theorem Z5 {σ':St}(h:σ'=σ):Turn E σ (·=σ'):=fun g w a hr=>⟨g,σ,h.symm,hr⟩
theorem p4 {α β:Type}{f:α→β}{l:List α}{x y:α}(h:l[j]? =some y)(e:f x=f y):(l.set j x).map f=l.map f:=by
 apply List.ext_getElem?
 intro i
 rw[List.getElem?_map,List.getElem?_map]
 by_cases ei:i=j
 ·subst ei
  rw[List.getElem?_set_self (List.getElem?_eq_some_iff.1 h).1,h]
  simp[e]
 ·rw[List.getElem?_set_ne (fun e1=>ei e1.symm)]
theorem I1 {k:Nat}(h:den ν L k=s):upd (den ν L) k s=den ν L:=by
 funext k'
 unfold upd
 split
 ·rename_i e;rw[e,h]
 ·rfl
variable {b:Nat}
theorem I9 (c m:Nat)(h:look L (ck c)= .cell b ls):Tu E L ((ck c,.own b ls (List.replicate m .no))::L):=by
 intro ν
 have hd:den ν L (ck c)=renS ν (.cell b ls):=by simp only[den,h]
 rw[o1]
 simp only[renS]at hd⊢
 cases hν:ν b with
 |none=>rw[hν]at hd;exact i4 fun g w a hr=>i6 hr hd
 |some p=>
  rw[hν]at hd
  have e:(List.replicate m Blk.no).map (renB ν)=List.replicate m .no:=by rw[List.map_replicate];rfl
  rw[e]
  exact a54 c p.1 m _ hd
variable {bs:List Blk}
theorem d6 (c:Nat)(h:look L (ck c)= .own b ls bs):Tu E L ((ck c,.cell b ls)::L):=by
 intro ν
 have hd:den ν L (ck c)=renS ν (.own b ls bs):=by simp only[den,h]
 rw[o1]
 simp only[renS]at hd⊢
 cases hν:ν b with
 |none=>rw[hν]at hd;exact i4 fun g w a hr=>i6 hr hd
 |some p=>rw[hν]at hd;exact a5g c p.1 _ _ hd
variable {q qc e sz:Nat} {rows:List (List SV)}
theorem a5E {ps:List Leaf}(t j c i:Nat)(h1:look L (tk t)= .one (.agg ps))(h2:ps[j]? =some (.u q qc e sz rows))(h3:look L (ck c)= .own b ls bs)(h4:bs[i]? =some .no):
 Tu E L ((tk t,.agg (ps.set j (.hd q rows.length 0)))::(ck c,.own b ls (bs.set i (.mk q 0 e sz rows)))::L):=by
 intro ν
 have d1:den ν L (tk t)=renS ν (.agg ps):=by simp only[den,h1]
 have d2:den ν L (ck c)=renS ν (.own b ls bs):=by simp only[den,h3]
 rw[o1,o1]
 simp only[renS,renP]at d1 d2⊢
 cases hν:ν b with
 |none=>rw[hν]at d2;exact i4 fun g w a hr=>i6 hr d2
 |some p=>
  rw[hν]at d2
  simp only at d2⊢
  have hb:(bs.map (renB ν))[i]? =some .no:=by rw[List.getElem?_map,h4];rfl
  cases hq:ν q with
  |some p1=>
   have hp:(ps.map (renL ν))[j]? =some (.u p1.1 p1.2 e sz rows):=by rw[List.getElem?_map,h2];simp only[Option.map_some,renL,hq]
   rw[List.map_set,List.map_set]
   simp only[renL,renB,hq]
   exact a5a t j c i p.1 p1.1 p1.2 e sz _ _ _ rows d1 hp d2 hb
  |none=>
   cases rows with
   |cons r rs=>
    refine i4 fun g w a hr=> ?_
    have hs:=hr.slot t
    rw[d1]at hs
    obtain⟨cs,-,hl,hr2⟩:=hs
    have hp:(ps.map (renL ν))[j]? =some badLeaf:=by rw[List.getElem?_map,h2];simp only[Option.map_some,renL,hq];rfl
    have hlt:=(List.getElem?_eq_some_iff.1 hp).1
    exact y8 (hr2 j badLeaf _ hp (Array.getElem?_eq_getElem (by omega)))
   |nil=>
    refine Z5 ?_
    have e1:(ps.set j (.hd q ([]:List (List SV)).length 0)).map (renL ν)=ps.map (renL ν):=p4 h2 (by simp only[renL,hq];rfl)
    have e2:(bs.set i (.mk q 0 e sz [])).map (renB ν)=bs.map (renB ν):=p4 h4 (by simp only[renB,hq];rfl)
    rw[e1,e2,I1 d2,I1 d1]
theorem a4G (c b i sz:Nat)(ls:List Leaf)(bs:List Blk)(hc:σ (ck c)= .own b ls bs)(hi:ls[i]? =some .nil):Turn E σ (·=upd σ (ck c) (.own b (ls.set i (.im true (.sl sz []))) bs)):=by
 intro g w a h
 have hcell:=h.cell c
 rw[hc]at hcell
 obtain⟨⟨cur,e0,hg,hh,hl⟩,hbs⟩:=hcell
 refine⟨g,_,rfl,h.putCell c _ ⟨⟨cur,e0,hg,hh,by rw[List.length_set];exact hl.1,fun j l v h1 h2=> ?_⟩,hbs⟩⟩
 by_cases ej:j=i
 ·subst ej
  rw[List.getElem?_set_self (List.getElem?_eq_some_iff.1 hi).1]at h1
  cases h1
  have:v= .slice none 0 0:=hl.2 j _ v hi h2
  rw[this]
  exact .nil _ _ _
 ·rw[List.getElem?_set_ne (fun e1=>ej e1.symm)]at h1
  exact hl.2 j l v h1 h2
theorem A8 {qc':Nat}(c i j:Nat)(h1:look L (ck c)= .own b ls bs)(h2:ls[i]? =some (.hd q n qc))(h3:bs[j]? =some (.mk q qc' e sz rows))(hn:n=rows.length):
 Tu E L ((ck c,.own b (ls.set i (.im true (.sl sz rows))) (bs.set j .no))::L):=by
 intro ν
 have d2:den ν L (ck c)=renS ν (.own b ls bs):=by simp only[den,h1]
 rw[o1]
 simp only[renS]at d2⊢
 cases hν:ν b with
 |none=>rw[hν]at d2;exact i4 fun g w a hr=>i6 hr d2
 |some p=>
  rw[hν]at d2
  simp only at d2⊢
  rw[List.map_set,List.map_set]
  simp only[renL,renB]
  cases hq:ν q with
  |some p1=>
   have hl:(ls.map (renL ν))[i]? =some (.hd p1.1 n p1.2):=by rw[List.getElem?_map,h2];simp only[Option.map_some,renL,hq]
   have hb:(bs.map (renB ν))[j]? =some (.mk p1.1 p1.2 e sz rows):=by rw[List.getElem?_map,h3];simp only[Option.map_some,renB,hq]
   exact a6j c p.1 i j p1.1 p1.2 n e sz _ _ rows d2 hl hb hn
  |none=>
   cases rows with
   |cons r rs=>exact i4 fun g w a hr=>A6 (j:=j) hr d2 (by rw[List.getElem?_map,h3];simp only[Option.map_some,renB,hq];rfl)
   |nil=>
    have hn0:n=0:=hn
    subst hn0
    have hl:(ls.map (renL ν))[i]? =some .nil:=by rw[List.getElem?_map,h2];simp only[Option.map_some,renL,hq,if_true]
    have hb:(bs.map (renB ν))[j]? =some .no:=by rw[List.getElem?_map,h3];simp only[Option.map_some,renB,hq];rfl
    have e1:(bs.map (renB ν)).set j .no=bs.map (renB ν):=by
     have:=p4 (f:=id) (x:=Blk.no) hb rfl
     simpa using this
    rw[e1]
    exact a4G c p.1 i sz _ _ d2 hl
end Go.Proofs.Ytjfjdgjhihgdkaa.V
namespace Go.Proofs.Ytjfjdgjhihgdkaa.V
open Go Go.RowKit
def resX (T:Tab)(L:SL):List ResultVar→Option (List Part)
 |[]=>some []
 | .tmp t::rs=>match look L (tk t),resX T L rs with
  | .one p,some ps=>bif p.closed&&p.told then some (p::ps)else none
  |_,_=>none
 | .cell a ty::rs=>match look L (ck a),look L (tk a),resX T L rs with
  | .cell b ls,.one (.lf (.ptr b' 0)),some ps=>match T.get ty with
   |some ti=>bif Nat.beq b b'&&(ls.all Leaf.closed&&(ti.sh.agg&&Nat.beq ls.length ti.size))then some (.agg ls::ps)else none
   |none=>none
  |_,_,_=>none
variable {P:Program} {E:Env} {c:Code}
theorem VW.rel {σ:St}{R R':Exit→St→Prop}(h:VW P E c σ R)(hR:∀e τ g w a,R e τ→Rel E g w a τ→R' e τ):VW P E c σ R':=
 fun g w a Q hr hq=>h g w a Q hr fun e g' w' a' τ hrr hr'=>hq e g' w' a' τ (hR e τ g' w' a' hrr hr') hr'
variable {L:SL}
theorem n8 {ν:Nm}{τ:St}{k:Nat}{s:Slot}(h:Weak τ (den ν L))(hs:renS ν (look L k)=s)(hne:s≠Slot.hole):τ k=s:=by
 rcases h k with e|e
 ·rw[←e];exact hs
 ·exact absurd (hs.symm.trans e) hne
theorem Q8 {P:Program}{T:Tab}{E:Env}{g:Nat→Tag}{w:World}{a:Act}{ν:Nm}{L:SL}{τ:St}(hT:TabOK P T)(hr:Rel E g w a τ)(h:Weak τ (den ν L)):
 ∀{rs:List ResultVar} {ps:List Part},resX T L rs=some ps→resParts τ rs=some ps∧resLen P ps rs
 |[],ps,e=>by cases e;exact⟨rfl,fun i t ty p h1=>by simp at h1⟩
 | .tmp t::rs,ps,e=>by
  simp only[resX]at e
  split at e
  ·rename_i p ps' h1 h2
   cases hb:p.closed&&p.told with
   |false=>rw[hb]at e;cases e
   |true=>
    rw[hb]at e
    cases e
    rw[Bool.and_eq_true]at hb
    obtain⟨k1,k2⟩:=Q8 hT hr h h2
    have ht:τ (tk t)= .one p:=n8 h (by rw[h1];simp only[renS,n7 hb.1]) (by intro e0;cases e0;cases hb.2)
    refine⟨by simp only[resParts,resPart,ht,k1],fun i t' ty p' e1 e2=> ?_⟩
    cases i with
    |zero=>simp at e1
    |succ i=>exact k2 i t' ty p' (by simpa using e1) (by simpa using e2)
  ·cases e
 | .cell x ty::rs,ps,e=>by
  simp only[resX]at e
  split at e
  ·rename_i b ls b' ps' h1 h2 h3
   split at e
   ·rename_i ti hti
    cases hb:Nat.beq b b'&&(ls.all Leaf.closed&&(ti.sh.agg&&Nat.beq ls.length ti.size))with
    |false=>rw[hb]at e;cases e
    |true=>
     rw[hb]at e
     cases e
     rw[Bool.and_eq_true,Bool.and_eq_true,Bool.and_eq_true]at hb
     obtain⟨hb1,hb2,hb3,hb4⟩:=hb
     obtain rfl:=Nat.eq_of_beq_eq_true hb1
     have hls:ls.map (renL ν)=ls:=D5 fun l hl=>y7 (List.all_eq_true.1 hb2 l hl)
     obtain⟨k1,k2⟩:=Q8 hT hr h h3
     cases hν:ν b with
     |none=>
      exact(i6 hr (n8 h (k:=ck x) (s:= .lf badLeaf) (by rw[h1];simp only[renS,hν]) (by intro e0;cases e0))).elim
     |some q=>
      have ht:τ (ck x)= .cell q.1 ls:=n8 h (by rw[h1];simp only[renS,hν,hls]) (by intro e0;cases e0)
      have ht2:τ (tk x)= .lf (.ptr q.1 0):=n8 h (by rw[h2];simp only[renS,renP,renL,hν]) (by intro e0;cases e0)
      have hall:ls.all Leaf.bare=true:=List.all_eq_true.2 fun l hl=>Leaf.closed_bare (List.all_eq_true.1 hb2 l hl)
      refine⟨by simp only[resParts,resPart,ht,ht2,k1,hall,and_self,if_true],fun i t' ty' p' e1 e2=> ?_⟩
      cases i with
      |zero=>
       simp only[List.getElem?_cons_zero,Option.some.injEq]at e1 e2
       cases e1
       subst e2
       have:=(hT.get hti).ty
       rw[hb3]at this
       exact⟨ti.size,this,fun ls' e0=>by cases e0;exact Nat.eq_of_beq_eq_true hb4⟩
      |succ i=>exact k2 i t' ty' p' (by simpa using e1) (by simpa using e2)
   ·cases e
  ·cases e
def argL :List Part→Nat→SL
 |[],_=>[]
 |p::ps,i=>(tk i,.one p)::argL ps (i+1)
theorem G8 :∀(ps:List Part) (i k:Nat),look (argL ps i) k=Slot.hole∨∃q p,k=tk (i+q)∧ps[q]? =some p∧look (argL ps i) k= .one p
 |[],i,k=> .inl rfl
 |p::ps,i,k=>by
  simp only[argL,n5]
  by_cases h:k=tk i
  ·right;exact⟨0,p,h,rfl,by rw[if_pos h]⟩
  ·rw[if_neg h]
   rcases G8 ps (i+1) k with e|⟨q,p',h1,h2,h3⟩
   ·exact .inl e
   ·exact .inr ⟨q+1,p',by rw[h1];congr 1;omega,by simpa using h2,h3⟩
theorem V3 (ν:Nm)(args:List Part)(hc:args.all Part.closed=true):Weak (st0 args) (den ν (argL args 0)):=fun k=>by
 rcases G8 args 0 k with e|⟨q,p,h1,h2,h3⟩
 ·right;simp only[den,e];rfl
 ·left
  have hp:p.closed=true:=List.all_eq_true.1 hc p (List.mem_of_getElem? h2)
  simp only[den,h3,renS,n7 hp]
  subst h1
  have e1:tk (0+q)%2=0:=by unfold tk;omega
  have e2:tk (0+q)/2=q:=by unfold tk;omega
  simp[st0,e1,e2,h2]
structure Fin (T:Tab)(rs:List ResultVar)(R:Slot→Prop)(e:Exit)(L:SL):Prop where
 exit:e= .ret∨e= .normal
 res:∃ps,resX T L rs=some ps∧R (slotOf ps)
variable {T:Tab} {n:Nat} {R:Slot→Prop}
theorem CallX {f:Nat}{fn:Func}{args:List Part}(hT:TabOK P T)(hm:P.follows .mixedOrders=true)(hf:P.funcs[f]? =some fn)(hb:fn.body=some c)
 (hn:fn.ntmps=n) (hna:Nat.ble args.length n=true) (hcl:args.all Part.closed=true) (hro:resOK fn.results.toList=true)
 (h:∀E,Cx P T n E→(∀b,¬E.may b)→XW P E c (argL args 0) (Fin T fn.results.toList R)):CallV P f args R:=by
 refine CallV.body hf hb (by rw[hn];exact Nat.le_of_ble_eq_true hna) fun E hE hA=> ?_
 have hx:=(h E ⟨hT,by rw[hE,hn],hm⟩ hA).run (fun _=>none)
 refine D8 (Turn.weaken (V3 (fun _=>none) args hcl)) fun τ e0=> ?_
 subst e0
 refine VW.rel hx fun e τ g w a ⟨ν',L',⟨h1,ps,h2,h3⟩,hw,_⟩ hr=> ?_
 obtain⟨k1,k2⟩:=Q8 hT hr hw h2
 exact⟨h1,ps,k1,H5 hro,k2,h3⟩
theorem xret {rs:List ResultVar}{Q:Exit→SL→Prop}(ps:List Part)(hQ:Q .ret L=Fin T rs R .ret L)(h:resX T L rs=some ps)(hR:R (slotOf ps)):XW P E .ret L Q:=
 a6I (hQ▸⟨.inl rfl,ps,h,hR⟩)
theorem vxj {id:Nat}{ops:Array Oper}{dr:Bool}{y:Code}{R:Exit→SL→Prop}(c:Cx P T n E)(L':SL)
 (h:∃W cs,AllP cs∧runR P T n ops dr W L (L'.map Prod.fst)=some (L',cs)) (hy:XW P E y L' R):XW P E (.seq (.region id ops dr) y) L R:=
 let⟨W,cs,h1,h2⟩:=h;vx c L' W h1 h2 hy
theorem S8 {R:Exit→SL→Prop}(L':SL)(h:(L'.map Prod.fst).map (fun k=>(k,look L k))=L')(hc:XW P E c L' R):XW P E c L R:=
 ⟨fun ν=>D8 (Turn.weaken (by have:=P8 ν L (L'.map Prod.fst);rwa[h]at this)) fun τ e=>by subst e;exact hc.run ν⟩
theorem a2Z {R:Exit→SL→Prop}(t:Nat)(L':SL)(h:(L'.map Prod.fst).map (fun k=>(k,look (frz t L) k))=L')(hc:XW P E c L' R):XW P E c L R:=
 xw_frz t _ rfl (S8 L' h hc)
theorem a2 {ps qs:List Prop}(h1:AllP ps)(h2:AllP qs):AllP (ps++qs):=by
 induction ps with
 |nil=>exact h2
 |cons p ps ih=>exact⟨h1.1,ih h1.2⟩
variable {p:Prop}
theorem a1 (h:p):AllP [p]:=⟨h,trivial⟩
theorem wI {a b:Int}(h:a=b)(h0: -9223372036854775808≤b)(h1:b≤9223372036854775807):AllP [(Slot.im (.int .i64 (IntKind.i64.wrap a)):Slot)= .int b]:=a1 (by rw[a1G h h0 h1])
theorem kB {b c:Bool}(h:b=c):AllP [(Slot.bool b)=Slot.bool c]:=a1 (by rw[h])
variable {α:Type} {i:Nat}
theorem ix {f:α→List SV}{l:List α}{x:α}(h:l[i]? =some x):AllP [0≤((i:Nat):Int),(l.map f)[((i:Nat):Int).toNat]? =some (f x)]:=
 ⟨by omega,by simp[h],trivial⟩
theorem cl {f:FuncId}{ps:List Part}(h:Text P f)(hc:CallV P f ps R):AllP [Text P f,CallV P f ps R]:=⟨h,hc,trivial⟩
theorem hl (n:Nat):AllP [n=n]:=a1 rfl
theorem ln {f:α→List SV}{l:List α}:AllP [(Slot.int (((l.map f).length:Nat):Int))=Slot.int ((l.length:Nat):Int)]:=a1 (by rw[List.length_map])
theorem ixu (h:i<n):AllP [0≤((i:Nat):Int),((i:Nat):Int)<((n:Nat):Int)]:=⟨by omega,by omega,trivial⟩
theorem ib {s:ByteArray}{c:UInt8}(h:s.data.toList[i]? =some c):AllP [0≤((i:Nat):Int),s.data.toList[((i:Nat):Int).toNat]? =some c]:=⟨by omega,h,trivial⟩
variable {b:Nat}
theorem mk (h1:b*n≤281474976710656)(h2:n≤maxLen):AllP [n=n,b*n≤281474976710656,n≤maxLen]:=⟨rfl,h1,h2,trivial⟩
theorem ap {a:Nat}(h1:a*b≤140737488355328)(h2:a≤maxLen):AllP [a*b≤140737488355328,a≤maxLen]:=⟨h1,h2,trivial⟩
theorem u3 {l:List α}(h:i<l.length):∃x,l[i]? =some x:=⟨_,List.getElem?_eq_getElem h⟩
theorem d5 [Decidable p](h:decide p=true):p:=of_decide_eq_true h
theorem i5 [Decidable p](h:decide p=false):¬p:=of_decide_eq_false h
end Go.Proofs.Ytjfjdgjhihgdkaa.V
namespace Go.Proofs.Ytjfjdgjhihgdkaa.V
open Go Go.RowKit
variable {P:Program}
theorem a4i (fa:Array Field)(ss:List Nat)(hl:fa.toList.length=ss.length)(h:∀(i:Nat) f s,fa.toList[i]? =some f→ss[i]? =some s→(P.info? f.type).map (·.size)=some s)(w:World):
 ((fa.mapM fun f=>do pure (f.offset,←sizeOf f.type)):Sem (Array (Nat×Nat))).run P w= .ok ((fa.toList.zip ss).map fun p=>(p.1.offset,p.2)).toArray w:=by
 rw[Array.mapM_eq_mapM_toList,map_eq_pure_bind,Sem.run_bind,a2v fa.toList ss hl h w]
 rfl
def fieldsOf (P:Program)(t:TypeId):Option (List (Nat×Option Nat)):=match P.underlying t with
 |some (.struct fa)=>some (fa.toList.map fun f=>(f.offset,(P.info? f.type).map (·.size)))
 |_=>none
variable {t:TypeId}
theorem ShOK.st_of {fs:List (Nat×Nat)}{zl:List Leaf}(h:fieldsOf P t=some (fs.map fun p=>(p.1,some p.2)))(hz:∃z,(∀w,(zeroValue t).run P w= .ok z w)∧z.cells.toList.map litLeaf=zl):
 ShOK P t zl (.st fs):=by
 unfold fieldsOf at h
 split at h
 ·rename_i fa hu
  simp only[Option.some.injEq]at h
  have hlen:fa.toList.length=fs.length:=by have:=congrArg List.length h;simpa using this
  have hget:∀(j:Nat) p,fs[j]? =some p→∃f,fa[j]? =some f∧f.offset=p.1∧(P.info? f.type).map (·.size)=some p.2:=by
   intro j p hp
   have e:=congrArg (fun l=>l[j]?) h
   simp only[List.getElem?_map,hp,Option.map_some]at e
   cases hf:fa.toList[j]? with
   |none=>rw[hf]at e;cases e
   |some f=>
    rw[hf]at e
    simp only[Option.map_some,Option.some.injEq,Prod.mk.injEq]at e
    exact⟨f,by simpa using hf,e.1,e.2⟩
  refine⟨⟨fa,hu,hget⟩,⟨⟨fa,hu,fun w=> ?_⟩,hz⟩⟩
  have hp:=a4i (P:=P) fa (fs.map (·.2)) (by simpa using hlen) (fun i f s h1 h2=>by
   simp only[List.getElem?_map,Option.map_eq_some_iff]at h2
   obtain⟨p,hp,rfl⟩:=h2
   obtain⟨f',e1,e2,e3⟩:=hget i p hp
   have:f'=f:=by
    have h1':fa[i]? =some f:=by simpa using h1
    rw[h1']at e1;cases e1;rfl
   rw[←this];exact e3) w
  rw[hp]
  congr 2
  apply List.ext_getElem?
  intro i
  simp only[List.getElem?_map,List.getElem?_zip_eq_some,List.zip_map_right]
  cases hp:fs[i]? with
  |none=>
   have h1:fs.length≤i:=by simpa using hp
   have h2:(fa.toList.zip fs)[i]? =none:=by rw[List.getElem?_eq_none];rw[List.length_zip];omega
   simp[h2]
  |some p=>
   obtain⟨f,e1,e2,e3⟩:=hget i p hp
   have h2:(fa.toList.zip fs)[i]? =some (f,p):=by
    rw[List.getElem?_zip_eq_some]
    exact⟨by simpa using e1,hp⟩
   simp[h2,e2]
 ·cases h
variable {size bytes:Nat} {zero:List Leaf} {zsv:List SV}
theorem TyOK.mk0 {sh:Sh}(z:Value)(h:(P.info? t).map (fun i=>(i.zero,i.size,i.bytes))=some (some z,size,bytes))(h1:z.cells.size=size)
 (h2:z.cells.toList.map litLeaf=zero) (h3:zsv=[]∨(zsv.length=size∧zerosAre z.cells.toList zsv=true)) (hp:0<size) (ho:sh.agg=false→size=1) (hs:ShOK P t zero sh):
 TyOK P t ⟨sh,size,bytes,zero,zsv⟩:=⟨⟨z,h,h1,h2,h3⟩,hp,ho,hs⟩
theorem TyOK.int (k:IntKind)(hu:P.underlying t=some (.int k))(h:(P.info? t).map (fun i=>(i.zero,i.size,i.bytes))=some (some (.int k 0),1,bytes)):
 TyOK P t ⟨.int k,1,bytes,[.im true (.int k 0)],[.int k 0]⟩:= .mk0 _ h rfl rfl (.inr ⟨rfl,by cases k<;>rfl⟩) (by decide) (fun _=>rfl) hu
theorem TyOK.bool (hu:P.underlying t=some .bool)(h:(P.info? t).map (fun i=>(i.zero,i.size,i.bytes))=some (some (.bool false),1,bytes)):
 TyOK P t ⟨.bool,1,bytes,[.im true (.bool false)],[.bool false]⟩:= .mk0 _ h rfl rfl (.inr ⟨rfl,rfl⟩) (by decide) (fun _=>rfl) hu
theorem TyOK.str (hu:P.underlying t=some .string)(h:(P.info? t).map (fun i=>(i.zero,i.size,i.bytes))=some (some (.string ⟨#[]⟩),1,bytes)):
 TyOK P t ⟨.str,1,bytes,[.im true (.str ⟨#[]⟩)],[.str ⟨#[]⟩]⟩:= .mk0 _ h rfl rfl (.inr ⟨rfl,rfl⟩) (by decide) (fun _=>rfl) hu
theorem TyOK.sl (e sz:Nat)(hu:P.underlying t=some (.slice e))(he:P.elem t=e)(h:(P.info? t).map (fun i=>(i.zero,i.size,i.bytes))=some (some (.slice none 0 0),1,bytes)):
 TyOK P t ⟨.sl e,1,bytes,[.nil],[.sl sz []]⟩:= .mk0 _ h rfl rfl (.inr ⟨rfl,rfl⟩) (by decide) (fun _=>rfl) ⟨hu,he⟩
theorem TyOK.st (fs:List (Nat×Nat))(z:Value)(hf:fieldsOf P t=some (fs.map fun p=>(p.1,some p.2)))
 (h:(P.info? t).map (fun i=>(i.zero,i.size,i.bytes))=some (some z,size,bytes)) (h1:z.cells.size=size) (h2:z.cells.toList.map litLeaf=zero)
 (h3:zsv=[]∨(zsv.length=size∧zerosAre z.cells.toList zsv=true)) (hp:0<size):TyOK P t ⟨.st fs,size,bytes,zero,zsv⟩:=
 .mk0 z h h1 h2 h3 hp (fun e=>by cases e) (ShOK.st_of hf (Zeros.of h h2))
end Go.Proofs.Ytjfjdgjhihgdkaa.V
namespace Go.Proofs.Ytjfjdgjhihgdkaa.V
open Go Go.RowKit
def Runs (P:Program)(T:Tab)(n:Nat)(c:Code)(L:SL)(e:Exit)(L':SL):Prop:=∀E,Cx P T n E→XW P E c L fun e1 L1=>e1=e∧L1=L'
structure EW (P:Program)(T:Tab)(n:Nat)(c:Code)(L:SL)(K:Exit→SL→Prop):Prop where
 ex:∃e L',K e L'∧Runs P T n c L e L'
variable {P:Program} {T:Tab} {n:Nat}
variable {id:Nat} {ops:Array Oper} {dr:Bool} {L L':SL} {cs:List Prop} {K:Exit→SL→Prop}
theorem a3P {W:Wits}(hcs:AllP cs)(h:runR P T n ops dr W L (L'.map Prod.fst)=some (L',cs))(hK:K .normal L'):EW P T n (.region id ops dr) L K:=
 ⟨.normal,L',hK,fun E c=>Y4 c hcs h ⟨rfl,rfl⟩⟩
variable {x y:Code}
theorem a7 (h:EW P T n x L (seqX (fun L'=>EW P T n y L' K) K)):EW P T n (.seq x y) L K:=by
 obtain⟨e,L',hk,hr⟩:=h.ex
 cases e with
 |normal=>
  obtain⟨e2,L2,hk2,hr2⟩:=EW.ex (show EW P T n y L' K from hk)
  exact⟨e2,L2,hk2,fun E c=>b9 ((hr E c).mono fun e1 L1 ⟨h1,h2⟩=>by subst h1 h2;exact hr2 E c)⟩
 |_=>exact⟨_,L',hk,fun E c=>b9 ((hr E c).mono fun e1 L1 ⟨h1,h2⟩=>by subst h1;exact⟨rfl,h2⟩)⟩
theorem ex (L':SL)(W:Wits)(hcs:AllP cs)(h:runR P T n ops dr W L (L'.map Prod.fst)=some (L',cs))(hy:EW P T n y L' K):EW P T n (.seq (.region id ops dr) y) L K:=
 a7 (a3P hcs h hy)
theorem exe (L':SL)(W:Wits)(hcs:AllP cs)(h:runR P T n ops dr W L (L'.map Prod.fst)=some (L',cs))(hK:K .normal L'):EW P T n (.region id ops dr) L K:=a3P hcs h hK
theorem exj (L':SL)(h:∃W cs,AllP cs∧runR P T n ops dr W L (L'.map Prod.fst)=some (L',cs))(hy:EW P T n y L' K):EW P T n (.seq (.region id ops dr) y) L K:=
 let⟨W,cs,h1,h2⟩:=h;ex L' W h1 h2 hy
theorem exje (L':SL)(h:∃W cs,AllP cs∧runR P T n ops dr W L (L'.map Prod.fst)=some (L',cs))(hK:K .normal L'):EW P T n (.region id ops dr) L K:=
 let⟨W,cs,h1,h2⟩:=h;exe L' W h1 h2 hK
theorem a5 (h:K .normal L):EW P T n .skip L K:=⟨_,L,h,fun E c=>c5 ⟨rfl,rfl⟩⟩
theorem a1h (h:K .ret L):EW P T n .ret L K:=⟨_,L,h,fun E c=>a6I ⟨rfl,rfl⟩⟩
theorem d9 (h:K (.exit id) L):EW P T n (.exit id) L K:=⟨_,L,h,fun E c=>n4 ⟨rfl,rfl⟩⟩
theorem a3K {c:Operand}{sh:Bool}(b:Bool)(hc:ox L c= .one (.lf (.im sh (.bool b))))(ht:b=true→EW P T n x L K)(hf:b=false→EW P T n y L K):EW P T n (.cond c x y) L K:=by
 cases b with
 |true=>
  obtain⟨e,L',hk,hr⟩:=(ht rfl).ex
  exact⟨e,L',hk,fun E c=>a1c true hc (fun _=>hr E c) (fun h=>by cases h)⟩
 |false=>
  obtain⟨e,L',hk,hr⟩:=(hf rfl).ex
  exact⟨e,L',hk,fun E c=>a1c false hc (fun h=>by cases h) (fun _=>hr E c)⟩
variable {c:Code}
theorem a9 (h:EW P T n c L (blockX id K)):EW P T n (.block id c) L K:=by
 obtain⟨e,L',hk,hr⟩:=h.ex
 cases e with
 |exit i=>
  simp only[blockX]at hk
  cases hb:Nat.beq i id with
  |true=>
   rw[hb]at hk
   exact⟨.normal,L',hk,fun E c=>c8 ((hr E c).mono fun e1 L1 ⟨h1,h2⟩=>by subst h1;simp only[blockX,hb];exact⟨trivial,h2⟩)⟩
  |false=>
   rw[hb]at hk
   exact⟨.exit i,L',hk,fun E c=>c8 ((hr E c).mono fun e1 L1 ⟨h1,h2⟩=>by subst h1;simp only[blockX,hb];exact⟨trivial,h2⟩)⟩
 |_=>exact⟨_,L',hk,fun E c=>c8 ((hr E c).mono fun e1 L1 ⟨h1,h2⟩=>by subst h1;exact⟨rfl,h2⟩)⟩
inductive Rounds (P:Program)(T:Tab)(n:Nat)(c:Code):Nat→SL→Exit→SL→Prop
 |last {L:SL} {e:Exit} {L':SL}:Runs P T n c L e L'→e≠.normal→Rounds P T n c 0 L e L'
 |more {k:Nat} {L L1:SL} {e:Exit} {L':SL}:Runs P T n c L .normal L1→Rounds P T n c k L1 e L'→Rounds P T n c (k+1) L e L'
theorem Rounds.runs {k:Nat}{e:Exit}(h:Rounds P T n c k L e L'):Runs P T n (.loop c) L e L':=fun E cx=>by
 refine a48 (fun m L1=>Rounds P T n c m L1 e L') k h fun m L1 h1=> ?_
 cases h1 with
 |last hr hne=>
  refine(hr E cx).mono fun e1 L2 ⟨h2,h3⟩=> ?_
  subst h2
  cases e1 with
  |normal=>exact absurd rfl hne
  |_=>exact⟨rfl,h3⟩
 |more hr hm=>exact(hr E cx).mono fun e1 L2 ⟨h2,h3⟩=>by subst h2 h3;exact⟨_,Nat.lt_succ_self _,hm⟩
theorem e_loop (I:Nat→SL→Prop)(m:Nat)(h0:I m L)(round:∀m L,I m L→EW P T n c L (seqX (fun L'=>∃m',m'<m∧I m' L') K)):EW P T n (.loop c) L K:=by
 have key:∀m L,I m L→∃k e L',K e L'∧Rounds P T n c k L e L':=by
  intro m
  induction m using Nat.strongRecOn with
  |ind m ih=>
   intro L hL
   obtain⟨e,L',hk,hr⟩:=(round m L hL).ex
   cases e with
   |normal=>
    obtain⟨m',hlt,hi⟩:=hk
    obtain⟨k,e2,L2,hk2,hr2⟩:=ih m' hlt L' hi
    exact⟨k+1,e2,L2,hk2,.more hr hr2⟩
   |_=>exact⟨0,_,L',hk,.last hr (by intro h;cases h)⟩
 obtain⟨k,e,L',hk,hr⟩:=key m L h0
 exact⟨e,L',hk,hr.runs⟩
theorem e_tu (L':SL)(h:∀E,Tu E L L')(hc:EW P T n c L' K):EW P T n c L K:=by
 obtain⟨e,L1,hk,hr⟩:=hc.ex
 exact⟨e,L1,hk,fun E cx=>xw_tu L' (h E) (hr E cx)⟩
theorem a3S (L':SL)(h:(L'.map Prod.fst).map (fun k=>(k,look L k))=L')(hc:EW P T n c L' K):EW P T n c L K:=by
 obtain⟨e,L1,hk,hr⟩:=hc.ex
 exact⟨e,L1,hk,fun E cx=>S8 L' h (hr E cx)⟩
theorem e_fr (t:Nat)(L':SL)(h:(L'.map Prod.fst).map (fun k=>(k,look (frz t L) k))=L')(hc:EW P T n c L' K):EW P T n c L K:=by
 obtain⟨e,L1,hk,hr⟩:=hc.ex
 exact⟨e,L1,hk,fun E cx=>a2Z t L' h (hr E cx)⟩
variable {f:FuncId} {fn:Func} {args:List Part} {R:Slot→Prop}
theorem CallE (hT:TabOK P T)(hm:P.follows .mixedOrders=true)(hf:P.funcs[f]? =some fn)(hb:fn.body=some c)
 (hn:fn.ntmps=n) (hna:Nat.ble args.length n=true) (hcl:args.all Part.closed=true) (hro:resOK fn.results.toList=true)
 (h:EW P T n c (argL args 0) (Fin T fn.results.toList R)):∃s,R s∧CallV P f args (·=s):=by
 obtain⟨e,L',⟨hexit,ps,hps,hR⟩,hr⟩:=h.ex
 exact⟨slotOf ps,hR,CallX hT hm hf hb hn hna hcl hro fun E cx hA=>(hr E cx).mono fun e1 L1 ⟨h1,h2⟩=>by subst h1 h2;exact⟨hexit,ps,hps,rfl⟩⟩
def Slot.isOb :Slot→Bool
 | .own b ls _=>Nat.beq b obN&&ls.all Leaf.firm
 | .cell b ls=>Nat.beq b obN&&ls.all Leaf.firm
 |_=>false
structure FinM (T:Tab)(rs:List ResultVar)(R:Slot→Slot→Prop)(e:Exit)(L:SL):Prop where
 exit:e= .ret∨e= .normal
 res:∃ps,resX T L rs=some ps∧ps.all Part.closed=true∧(look L 1).isOb=true∧R (look L 1) (slotOf ps)
def obL (o:Slot)(args:List Part):SL:=(0,.lf (.ptr obN 0))::(1,o)::argL args 1
theorem a6y (ν:Nm)(o:Slot)(args:List Part){b c:Nat}(hν:ν obN=some (b,c))(hc:args.all Part.closed=true):Weak (stO b (renS ν o) args) (den ν (obL o args)):=fun k=>by
 unfold stO obL
 simp only[den,n5]
 by_cases h0:k=0
 ·subst h0;left;simp only[if_true,upd,renS,renP,renL,hν];rfl
 ·rw[if_neg h0]
  by_cases h1:k=1
  ·subst h1;left;simp only[if_true,upd]
  ·rw[if_neg h1,d4 _ _ h1]
   rcases G8 args 1 k with e|⟨q,p,e1,e2,e3⟩
   ·right;rw[e];rfl
   ·left
    have hp:p.closed=true:=List.all_eq_true.1 hc p (List.mem_of_getElem? e2)
    rw[e3]
    simp only[renS,n7 hp]
    subst e1
    have k1:tk (1+q)%2=0:=by unfold tk;omega
    have k2:tk (1+q)/2=q+1:=by unfold tk;omega
    simp[st0,k1,k2,e2]
theorem CallME {o:Slot}{R:Slot→Slot→Prop}(hT:TabOK P T)(hm:P.follows .mixedOrders=true)(hf:P.funcs[f]? =some fn)(hb:fn.body=some c)
 (hn:fn.ntmps=n) (hna:Nat.ble (args.length+1) n=true) (hcl:args.all Part.closed=true) (hro:resOK fn.results.toList=true)
 (h:EW P T n c (obL o args) (FinM T fn.results.toList R)):∃o' s,R o' s∧CallM P f args o o' s:=by
 obtain⟨e,L',⟨hexit,ps,hps,hpc,hob,hR⟩,hr⟩:=h.ex
 refine⟨look L' 1,slotOf ps,hR,fun ν b cc hν=>CallO.body hf hb (by rw[hn];exact Nat.le_of_ble_eq_true hna) fun E hE=> ?_⟩
 have hx:=(hr E ⟨hT,by rw[hE,hn],hm⟩).run ν
 refine D8 (Turn.weaken (a6y ν o args hν hcl)) fun τ e0=> ?_
 subst e0
 refine VW.rel hx fun e τ g w a ⟨ν',L1,⟨h1,h2⟩,hw,hk⟩ hrel=> ?_
 subst h1 h2
 obtain⟨k1,k2⟩:=Q8 hT hrel hw hps
 have hν':ν' obN=some (b,cc):=hk.trans hν
 have hτ:τ 1=renS ν' (look L1 1):=by
  refine n8 hw (k:=1) rfl ?_
  cases hs:look L1 1 with
  |own b1 ls bs=>rw[hs]at hob;have hob:Nat.beq b1 obN=true:=(Bool.and_eq_true_iff.1 hob).1;rw[Nat.eq_of_beq_eq_true hob];simp only[renS,hν'];intro e0;cases e0
  |cell b1 ls=>rw[hs]at hob;have hob:Nat.beq b1 obN=true:=(Bool.and_eq_true_iff.1 hob).1;rw[Nat.eq_of_beq_eq_true hob];simp only[renS,hν'];intro e0;cases e0
  |one p=>rw[hs]at hob;cases hob
  |tup ps=>rw[hs]at hob;cases hob
  |obj b T e s=>rw[hs]at hob;cases hob
 have hfo:(look L1 1).firmO=true:=by
  cases hs:look L1 1 with
  |own b1 ls bs=>rw[hs]at hob;exact(Bool.and_eq_true_iff.1 hob).2
  |cell b1 ls=>rw[hs]at hob;exact(Bool.and_eq_true_iff.1 hob).2
  |one p=>rw[hs]at hob;cases hob
  |tup ps=>rw[hs]at hob;cases hob
  |obj b T e s=>rw[hs]at hob;cases hob
 exact⟨hexit,ps,k1,H5 hro,k2,fun p hp=>Part.closed_bare (List.all_eq_true.1 hpc p hp),fun p hp=>Part.closed_firm (List.all_eq_true.1 hpc p hp),by rw[hτ];exact u7 hfo,ν',hk,hτ,rfl⟩
variable {rs:List ResultVar}
theorem eret (ps:List Part)(hQ:K .ret L=Fin T rs R .ret L)(h:resX T L rs=some ps)(hR:R (slotOf ps)):EW P T n .ret L K:=
 a1h (hQ▸⟨.inl rfl,ps,h,hR⟩)
theorem eretM {R:Slot→Slot→Prop}(o:Slot)(ps:List Part)(hQ:K .ret L=FinM T rs R .ret L)(h:resX T L rs=some ps)(hc:ps.all Part.closed=true)(hl:look L 1=o)(ho:o.isOb=true)(hR:R o (slotOf ps)):EW P T n .ret L K:=
 a1h (hQ▸⟨.inl rfl,ps,h,hc,by rw[hl];exact ho,by rw[hl];exact hR⟩)
end Go.Proofs.Ytjfjdgjhihgdkaa.V
namespace Go.Proofs.Ytjfjdgjhihgdkaa.V
open Go Go.RowKit
theorem a5f {E:Env}{L:SL}{b q qc e sz:Nat}{ls:List Leaf}{bs:List Blk}{rows:List (List SV)}(t c i:Nat)(h1:look L (tk t)= .lf (.u q qc e sz rows))(h3:look L (ck c)= .own b ls bs)(h4:bs[i]? =some .no):
 Tu E L ((tk t,.lf (.hd q rows.length 0))::(ck c,.own b ls (bs.set i (.mk q 0 e sz rows)))::L):=by
 intro ν
 have d1:den ν L (tk t)=renS ν (.lf (.u q qc e sz rows)):=by simp only[den,h1]
 have d2:den ν L (ck c)=renS ν (.own b ls bs):=by simp only[den,h3]
 rw[o1,o1]
 simp only[renS,renP,renL,Slot.lf]at d1 d2⊢
 cases hν:ν b with
 |none=>rw[hν]at d2;exact i4 fun g w a hr=>i6 hr d2
 |some p=>
  rw[hν]at d2
  simp only at d2⊢
  have hb:(bs.map (renB ν))[i]? =some .no:=by rw[List.getElem?_map,h4];rfl
  cases hq:ν q with
  |some p1=>
   rw[hq]at d1
   rw[List.map_set]
   simp only[renB,hq]
   exact a1f t c p.1 i p1.1 p1.2 e sz _ _ rows d2 hb d1
  |none=>
   rw[hq]at d1
   cases rows with
   |cons r rs=>exact i4 fun g w a hr=>z2 hr d1
   |nil=>
    refine Z5 ?_
    have e2:(bs.set i (.mk q 0 e sz [])).map (renB ν)=bs.map (renB ν):=p4 h4 (by simp only[renB,hq];rfl)
    simp only[List.isEmpty_nil,if_true]at d1
    simp only[List.length_nil,if_true]
    rw[e2,I1 d2,I1 d1]
def OutX :List Leaf→List Blk→Prop
 |l::ls,.mk q _ _ _ rows::bs=>(∃n c,l= .hd q n c∧n=rows.length)∧OutX ls bs
 |l::ls,.no::bs=>l.closed=true∧OutX ls bs
 |[],[]=>True
 |_,_=>False
theorem a1n {ν:Nm}:∀{ls:List Leaf} {bs:List Blk},OutX ls bs→(∀B∈bs.map (renB ν),B≠badBlk)→OutV (ls.map (renL ν)) (bs.map (renB ν))∧(outL ls bs).map (renL ν)=outL (ls.map (renL ν)) (bs.map (renB ν))
 |[],[],_,_=>⟨trivial,rfl⟩
 |l::ls,.mk q c e sz rows::bs,h,hb=>by
  obtain⟨⟨n,c',rfl,hn⟩,h2⟩:=h
  obtain⟨k1,k2⟩:=a1n h2 fun B hB=>hb B (List.mem_cons_of_mem _ hB)
  have hb0:=hb (renB ν (.mk q c e sz rows)) (by simp)
  simp only[List.map_cons,renL,renB,outL]at hb0⊢
  cases hν:ν q with
  |some p=>simp only[OutV,outL,hn,k1,k2,and_self]
  |none=>
   rw[hν]at hb0
   cases rows with
   |cons r rs=>exact absurd rfl hb0
   |nil=>
    have hn0:n=0:=hn
    subst hn0
    simp only[List.isEmpty_nil,if_true,OutV,outL,k1,k2,and_true]
    rfl
 |l::ls,.no::bs,h,hb=>by
  obtain⟨k1,k2⟩:=a1n h.2 fun B hB=>hb B (List.mem_cons_of_mem _ hB)
  simp only[List.map_cons,renB,outL,OutV,k1,k2,and_true]
  exact K0 (Leaf.closed_bare h.1)
 |[],.mk .. ::bs,h,_=>h.elim
 |[],.no::bs,h,_=>h.elim
theorem CallEO {P:Program}{T:Tab}{n:Nat}{f:FuncId}{fn:Func}{c:Code}{args:List Part}{R:Slot→Prop}{a0 ty:Nat}{ti:TI}(hT:TabOK P T)(hm:P.follows .mixedOrders=true)(hf:P.funcs[f]? =some fn)(hb:fn.body=some c)
 (hn:fn.ntmps=n) (hna:Nat.ble args.length n=true) (hcl:args.all Part.closed=true) (hres:fn.results= #[.cell a0 ty]) (hti:T.get ty=some ti) (hag:ti.sh.agg=true)
 (h:EW P T n c (argL args 0) fun e L=>(e= .ret∨e= .normal)∧∃b ls bs,look L (ck a0)= .own b ls bs∧look L (tk a0)= .lf (.ptr b 0)∧ls.length=ti.size∧OutX ls bs∧R (.agg (outL ls bs))):
 ∃s,R s∧CallV P f args fun s'=>∃v:Nm,s'=renS v s:=by
 obtain⟨e,L',⟨hexit,b,ls,bs,h1,h2,h3,h4,hR⟩,hr⟩:=h.ex
 have hty:=(hT.get hti).ty
 rw[hag]at hty
 refine⟨_,hR,CallV.bodyO hf hb (by rw[hn];exact Nat.le_of_ble_eq_true hna) a0 ty ti.size hres hty fun E hE hA=> ?_⟩
 have hx:=(hr E ⟨hT,by rw[hE,hn],hm⟩).run (fun _=>none)
 refine D8 (Turn.weaken (V3 (fun _=>none) args hcl)) fun τ e0=> ?_
 subst e0
 refine VW.rel hx fun e τ g w a ⟨ν',L1,⟨k1,k2⟩,hw,_⟩ hrel=> ?_
 subst k1 k2
 refine⟨hexit,?_⟩
 cases hν:ν' b with
 |none=>exact(i6 hrel (n8 hw (k:=ck a0) (s:= .lf badLeaf) (by rw[h1];simp only[renS,hν]) (by intro e0;cases e0))).elim
 |some p=>
  have hc:τ (ck a0)= .own p.1 (ls.map (renL ν')) (bs.map (renB ν')):=n8 hw (by rw[h1];simp only[renS,hν]) (by intro e0;cases e0)
  have ht:τ (tk a0)= .lf (.ptr p.1 0):=n8 hw (by rw[h2];simp only[renS,renP,renL,hν]) (by intro e0;cases e0)
  obtain⟨q1,q2⟩:=a1n h4 (ν:=ν') fun B hB e0=>by
   obtain⟨j,hj⟩:=List.mem_iff_getElem?.1 hB
   rw[e0]at hj
   exact A6 hrel hc hj
  exact⟨p.1,_,_,hc,ht,by rw[List.length_map];exact h3,q1,ν',by simp only[renS,renP,q2]⟩
theorem a6c (ν:Nm)(nm:List Nat):setN ν nm ν=ν:=by
 funext b
 unfold setN
 cases inN nm b<;>rfl
variable {E:Env} {L:SL} {b c e sz:Nat} {rows:List (List SV)}
theorem a7f (t:Nat)(h:look L (tk t)= .lf (.u b c e sz rows)):Tu E L ((tk t,.lf (.ap b 0 e sz rows))::L):=by
 intro ν
 have d1:den ν L (tk t)=renS ν (.lf (.u b c e sz rows)):=by simp only[den,h]
 rw[o1]
 simp only[renS,renP,renL,Slot.lf]at d1⊢
 cases hν:ν b with
 |some p=>rw[hν]at d1;exact a17 t p.1 p.2 e sz rows d1
 |none=>
  rw[hν]at d1
  cases rows with
  |cons r rs=>exact i4 fun g w a hr=>z2 hr d1
  |nil=>
   simp only[List.isEmpty_nil,if_true]at d1⊢
   exact Z5 (I1 d1)
theorem a5m (t:Nat)(h:look L (tk t)= .lf (.ap b c e sz rows)):Tu E L ((tk t,.lf (.im true (.sl sz rows)))::clean [apN] L):=by
 intro ν
 have d1:den ν L (tk t)=renS ν (.lf (.ap b c e sz rows)):=by simp only[den,h]
 have hw:Weak (still (den ν L)) (den ν (clean [apN] L)):=by
  have:=a0K ν ν [apN] L
  rwa[I6 _ _ (by simp[inN]),a6c]at this
 rw[o1]
 simp only[renS,renP,renL,Slot.lf]at d1⊢
 cases hν:ν b with
 |some p=>
  rw[hν]at d1
  intro g w a hr
  obtain⟨g',τ,h1,h2⟩:=a5o t p.1 p.2 e sz rows d1 g w a hr
  subst h1
  exact⟨g',_,rfl,h2.weaken (z0 hw _ _)⟩
 |none=>
  rw[hν]at d1
  cases rows with
  |cons r rs=>exact i4 fun g w a hr=>z2 hr d1
  |nil=>
   simp only[List.isEmpty_nil,if_true]at d1
   intro g w a hr
   obtain⟨g',τ,h1,h2⟩:=M0 t sz d1 g w a hr
   subst h1
   exact⟨g',_,rfl,h2.weaken (z0 (Weak.trans (show Weak (den ν L) (still (den ν L))from G7 _) hw) _ _)⟩
def Part.apAt (nm:Nat):Part→Bool
 | .lf (.ap b _ _ _ _)=>Nat.beq b nm
 |p=>p.closed
def resU (T:Tab)(nm:Nat)(L:SL):List ResultVar→Option (List Part)
 |[]=>some []
 | .tmp t::rs=>match look L (tk t),resU T nm L rs with
  | .one p,some ps=>bif p.apAt nm&&p.told then some (p::ps)else none
  |_,_=>none
 | .cell a ty::rs=>match look L (ck a),look L (tk a),resU T nm L rs with
  | .cell b ls,.one (.lf (.ptr b' 0)),some ps=>match T.get ty with
   |some ti=>bif Nat.beq b b'&&(ls.all Leaf.closed&&(ti.sh.agg&&Nat.beq ls.length ti.size))then some (.agg ls::ps)else none
   |none=>none
  |_,_,_=>none
variable {ν:Nm} {p:Part}
theorem a2R (h:p.told=true):(Slot.one (renP ν p))≠Slot.hole:=by
 intro e
 cases p with
 |agg ls=>simp only[renP,Slot.hole]at e;cases e
 |lf l=>
  simp only[renP,Slot.hole,Slot.one.injEq,Part.lf.injEq]at e
  cases l<;>simp only[renL]at e
  all_goals first|(split at e<;>first|cases e|(split at e<;>cases e))|cases e|skip
  cases h
theorem Y1 {P:Program}{T:Tab}{E:Env}{g:Nat→Tag}{w:World}{a:Act}{ν:Nm}{nm:Nat}{L:SL}{τ:St}(hT:TabOK P T)(hr:Rel E g w a τ)(h:Weak τ (den ν L)):
 ∀{rs:List ResultVar} {ps:List Part},resU T nm L rs=some ps→resParts τ rs=some (ps.map (renP ν))∧resLen P (ps.map (renP ν)) rs∧(∀p∈ps,p.apAt nm=true)
 |[],ps,e=>by cases e;exact⟨rfl,fun i t ty p h1=>by simp at h1,fun p h=>by cases h⟩
 | .tmp t::rs,ps,e=>by
  simp only[resU]at e
  split at e
  ·rename_i p ps' h1 h2
   cases hb:p.apAt nm&&p.told with
   |false=>rw[hb]at e;cases e
   |true=>
    rw[hb]at e
    cases e
    rw[Bool.and_eq_true]at hb
    obtain⟨k1,k2,k3⟩:=Y1 hT hr h h2
    have ht:τ (tk t)= .one (renP ν p):=n8 h (by rw[h1];rfl) (a2R hb.2)
    refine⟨by simp only[resParts,resPart,ht,k1,List.map_cons],fun i t' ty p' e1 e2=> ?_,fun q hq=> ?_⟩
    ·cases i with
     |zero=>simp at e1
     |succ i=>exact k2 i t' ty p' (by simpa using e1) (by simpa using e2)
    ·rcases List.mem_cons.1 hq with rfl|hq
     ·exact hb.1
     ·exact k3 q hq
  ·cases e
 | .cell x ty::rs,ps,e=>by
  simp only[resU]at e
  split at e
  ·rename_i b ls b' ps' h1 h2 h3
   split at e
   ·rename_i ti hti
    cases hb:Nat.beq b b'&&(ls.all Leaf.closed&&(ti.sh.agg&&Nat.beq ls.length ti.size))with
    |false=>rw[hb]at e;cases e
    |true=>
     rw[hb]at e
     cases e
     rw[Bool.and_eq_true,Bool.and_eq_true,Bool.and_eq_true]at hb
     obtain⟨hb1,hb2,hb3,hb4⟩:=hb
     obtain rfl:=Nat.eq_of_beq_eq_true hb1
     have hcl:(Part.agg ls).closed=true:=hb2
     have hls:ls.map (renL ν)=ls:=D5 fun l hl=>y7 (List.all_eq_true.1 hb2 l hl)
     obtain⟨k1,k2,k3⟩:=Y1 hT hr h h3
     cases hν:ν b with
     |none=>
      exact(i6 hr (n8 h (k:=ck x) (s:= .lf badLeaf) (by rw[h1];simp only[renS,hν]) (by intro e0;cases e0))).elim
     |some q=>
      have ht:τ (ck x)= .cell q.1 ls:=n8 h (by rw[h1];simp only[renS,hν,hls]) (by intro e0;cases e0)
      have ht2:τ (tk x)= .one (.lf (.ptr q.1 0)):=n8 h (by rw[h2];simp only[renS,renP,renL,hν]) (by intro e0;cases e0)
      have hall:ls.all Leaf.bare=true:=List.all_eq_true.2 fun l hl=>Leaf.closed_bare (List.all_eq_true.1 hb2 l hl)
      refine⟨by simp only[resParts,resPart,ht,ht2,k1,hall,and_self,if_true,List.map_cons,n7 hcl],fun i t' ty' p' e1 e2=> ?_,fun p hp=> ?_⟩
      ·cases i with
       |zero=>
        simp only[List.getElem?_cons_zero,Option.some.injEq,List.map_cons]at e1 e2
        cases e1
        subst e2
        have:=(hT.get hti).ty
        rw[hb3]at this
        refine⟨ti.size,this,fun ls' e0=> ?_⟩
        rw[n7 hcl]at e0
        cases e0
        exact Nat.eq_of_beq_eq_true hb4
       |succ i=>exact k2 i t' ty' p' (by simpa using e1) (by simpa using e2)
      ·rcases List.mem_cons.1 hp with rfl|hp
       ·exact hcl
       ·exact k3 p hp
   ·cases e
  ·cases e
variable {nm:Nat}
theorem a5G (h:p.apAt nm=true):(renP ν p).bare=true:=by
 unfold Part.apAt at h
 split at h
 ·exact A0 rfl
 ·exact A0 (Part.closed_bare h)
def canP :Part→Part
 | .lf (.ap _ _ e sz rows)=> .lf (.ap rsN 0 e sz rows)
 |p=>p
theorem a6e (h:p.apAt nm=true):renP ν p=renP (fun _=>ν nm) (canP p):=by
 unfold Part.apAt at h
 split at h
 ·rename_i b c e sz rows
  obtain rfl:=Nat.eq_of_beq_eq_true h
  rfl
 ·rename_i hne
  have:canP p=p:=by
   unfold canP
   split
   ·exact absurd rfl (hne _ _ _ _ _)
   ·rfl
  rw[this,n7 h,n7 h]
theorem a0d (ν:Nm)(ps:List Part):renS ν (slotOf ps)=slotOf (ps.map (renP ν)):=by
 match ps with
 |[]=>rfl
 |[p]=>rfl
 |p::q::ps=>rfl
structure FinU (T:Tab)(rs:List ResultVar)(st:Bool)(args:List Part)(kq:Option Nat)(R:Slot→Slot→Prop)(e:Exit)(L:SL):Prop where
 exit:e= .ret∨e= .normal
 res:∃ps nm o',resU T nm L rs=some ps∧(st=true→o'=look L 1∧o'.isOb=true)∧(st=false→o'=Slot.hole)∧(∀q,kq=some q→∃p,args[q]? =some p∧look L (tk q)= .one p)∧R o' (slotOf (ps.map canP))
variable {P:Program} {T:Tab} {n:Nat} {f:FuncId} {args:List Part} {R:Slot→Slot→Prop} {kq:Option Nat}
theorem CallUE {fn:Func}{c:Code}{o:Slot}(st:Bool)(hT:TabOK P T)(hm:P.follows .mixedOrders=true)(hf:P.funcs[f]? =some fn)(hb:fn.body=some c)
 (hn:fn.ntmps=n) (hna:Nat.ble args.length n=true) (hro:resOK fn.results.toList=true) (hkq:∀q p,kq=some q→args[q]? =some p→∃c e sz rows,p= .lf (.ap obN c e sz rows))
 (h:EW P T n c ((1,o)::argL args 0) (FinU T fn.results.toList st args kq R)):∃o' s,R o' s∧CallUX P f args o o' s kq:=by
 obtain⟨e,L',⟨hexit,ps,nm,o',hps,hst,hsf,hkp,hR⟩,hr⟩:=h.ex
 refine⟨o',slotOf (ps.map canP),hR,fun ν=>CallU.body hf hb (by rw[hn,List.length_map];exact Nat.le_of_ble_eq_true hna) fun E hE=> ?_⟩
 have hx:=(hr E ⟨hT,by rw[hE,hn],hm⟩).run ν
 have hw0:Weak (stU (renS ν o) (args.map (renP ν))) (den ν ((1,o)::argL args 0)):=fun k=>by
  unfold stU
  simp only[den,n5]
  by_cases h1:k=1
  ·subst h1;left;simp only[if_true,upd]
  ·rw[if_neg h1,d4 _ _ h1]
   rcases G8 args 0 k with e|⟨q,p,e1,e2,e3⟩
   ·right;rw[e];rfl
   ·left
    rw[e3]
    subst e1
    have k1:tk (0+q)%2=0:=by unfold tk;omega
    have k2:tk (0+q)/2=q:=by unfold tk;omega
    simp[st0,k1,k2,e2,renS]
 refine D8 (Turn.weaken hw0) fun τ e0=> ?_
 subst e0
 refine VW.rel hx fun e τ g w a ⟨ν',L1,⟨h1,h2⟩,hw,hk⟩ hrel=> ?_
 subst h1 h2
 obtain⟨k1,k2,k3⟩:=Y1 hT hrel hw hps
 refine⟨hexit,ps.map (renP ν'),k1,H5 hro,k2,fun p hp=> ?_,fun q p hq hp=> ?_,renS ν' o',?_,?_,ν',fun _=>ν' nm,hk,rfl,?_⟩
 ·obtain⟨p0,hp0,rfl⟩:=List.mem_map.1 hp
  exact a5G (k3 p0 hp0)
 ·obtain⟨p0,hp0,hl⟩:=hkp q hq
  rw[List.getElem?_map,hp0]at hp
  simp only[Option.map_some,Option.some.injEq]at hp
  subst hp
  obtain⟨c0,e0,sz,rows,rfl⟩:=hkq q _ hq hp0
  have e1:τ (tk q)= .one (renP ν (.lf (.ap obN c0 e0 sz rows))):=by
   have e2:renP ν (.lf (.ap obN c0 e0 sz rows))=renP ν' (.lf (.ap obN c0 e0 sz rows)):=by simp only[renP,renL,hk]
   rw[e2]
   exact n8 hw (by rw[hl];rfl) (a2R rfl)
  refine⟨e1,?_⟩
  simp only[renP,renL]at e1⊢
  cases hν:ν obN with
  |some p=>exact .inl ⟨_,_,_,_,_,rfl⟩
  |none=>
   rw[hν]at e1
   cases rows with
   |nil=>exact .inr rfl
   |cons r rs=>exact(z2 hrel e1).elim
 ·cases st with
  |false=>right;rw[hsf rfl];rfl
  |true=>
   left
   obtain⟨e1,e2⟩:=hst rfl
   rw[e1]at e2⊢
   refine(n8 hw (k:=1) rfl ?_).symm
   cases hs:look L1 1 with
   |own b1 ls bs=>simp only[renS];cases ν' b1<;>intro e0<;>cases e0
   |cell b1 ls=>simp only[renS];cases ν' b1<;>intro e0<;>cases e0
   |one p=>rw[hs]at e2;cases e2
   |tup ps=>rw[hs]at e2;cases e2
   |obj b T e s=>rw[hs]at e2;cases e2
 ·cases st with
  |false=>rw[hsf rfl];rfl
  |true=>
   obtain⟨e1,e2⟩:=hst rfl
   refine u7 ?_
   cases hs:o' with
   |own b1 ls bs=>rw[hs]at e2;exact(Bool.and_eq_true_iff.1 e2).2
   |cell b1 ls=>rw[hs]at e2;exact(Bool.and_eq_true_iff.1 e2).2
   |one p=>rw[hs]at e2;cases e2
   |tup ps=>rw[hs]at e2;cases e2
   |obj b T e s=>rw[hs]at e2;cases e2
 ·rw[a0d,List.map_map]
  congr 1
  exact List.map_congr_left fun p hp=>a6e (k3 p hp)
theorem eretU {rs:List ResultVar}{st:Bool}{K:Exit→SL→Prop}(o:Slot)(nm:Nat)(ps:List Part)(hQ:K .ret L=FinU T rs st args kq R .ret L)(h:resU T nm L rs=some ps)
 (ho:(bif st then o.isOb else true)=true) (hl:(bif st then look L 1 else Slot.hole)=o) (hk:∀q,kq=some q→∃p,args[q]? =some p∧look L (tk q)= .one p) (hR:R o (slotOf (ps.map canP))):EW P T n .ret L K:=
 a1h (hQ▸⟨.inl rfl,ps,nm,o,h,fun e=>by subst e;exact⟨hl.symm,ho⟩,fun e=>by subst e;exact hl.symm,hk,hR⟩)
theorem CallV.mid {a x b:Part}(h:CallV P f args (·= .tup [a,x,b])):CallV P f args (·= .tup [a,.lf .hole,b]):=by
 intro g w vs h0 h1 hw h2 h3 h4
 refine(h g w vs h0 h1 hw h2 h3 h4).mono ?_
 rintro e w1 ⟨v,g1,s,he,hb,rfl,hs,hrest⟩
 obtain⟨us,hu,hsz,hl⟩:=hs
 refine⟨v,g1,_,he,hb,rfl,⟨us,hu,by simpa using hsz,fun i p u k1 k2=> ?_⟩,hrest⟩
 match i with
 |0=>exact hl 0 p u (by simpa using k1) k2
 |1=>simp at k1;subst k1;exact trivial
 |2=>exact hl 2 p u (by simpa using k1) k2
 |i+3=>simp at k1
end Go.Proofs.Ytjfjdgjhihgdkaa.V
namespace Go.Proofs.Ytjfjdgjhihgdkaa.V
open Go Go.RowKit
variable {E:Env} {L:SL} {b q n qc e sz:Nat} {ls:List Leaf} {bs:List Blk} {rows:List (List SV)}
theorem a1s {q1 c1 e1 sz1 ri rj:Nat}{rows1:List (List SV)}(c i1 i2:Nat)(h1:look L (ck c)= .own b ls bs)(h2:bs[i1]? =some (.mkh q1 c1 e1 sz1 rows1 ri rj q n))(h3:bs[i2]? =some (.mk q qc e sz rows))(hn:n=rows.length)(hne:i1≠i2):
 Tu E L ((ck c,.own b ls ((bs.set i1 (.mk q1 0 e1 sz1 (putHd rows1 ri rj (.sl sz rows)))).set i2 .no))::L):=by
 intro ν
 have d2:den ν L (ck c)=renS ν (.own b ls bs):=by simp only[den,h1]
 rw[o1]
 simp only[renS]at d2⊢
 cases hν:ν b with
 |none=>rw[hν]at d2;exact i4 fun g w a hr=>i6 hr d2
 |some p=>
  rw[hν]at d2
  simp only at d2⊢
  have hb1:(bs.map (renB ν))[i1]? =some (renB ν (.mkh q1 c1 e1 sz1 rows1 ri rj q n)):=by rw[List.getElem?_map,h2];rfl
  cases hq1:ν q1 with
  |none=>exact i4 fun g w a hr=>A6 (j:=i1) hr d2 (by rw[hb1];simp only[renB,hq1])
  |some p1=>
   cases hq:ν q with
   |none=>exact i4 fun g w a hr=>A6 (j:=i1) hr d2 (by rw[hb1];simp only[renB,hq1,hq])
   |some p2=>
    have hb2:(bs.map (renB ν))[i2]? =some (.mk p2.1 p2.2 e sz rows):=by rw[List.getElem?_map,h3];simp only[Option.map_some,renB,hq]
    simp only[renB,hq1,hq]at hb1
    rw[List.map_set,List.map_set]
    simp only[renB,hq1]
    exact a4E c p.1 i1 i2 p1.1 p1.2 e1 sz1 p2.1 p2.2 n e sz ri rj _ _ rows1 rows d2 hb1 hb2 hn hne
theorem a2y {qc':Nat}(t c j:Nat)(h0:look L (tk t)= .lf (.hd q n qc))(h1:look L (ck c)= .own b ls bs)(h3:bs[j]? =some (.mk q qc' e sz rows))(hn:n=rows.length):
 Tu E L ((tk t,.lf (.im true (.sl sz rows)))::(ck c,.own b ls (bs.set j .no))::L):=by
 intro ν
 have d1:den ν L (tk t)=renS ν (.lf (.hd q n qc)):=by simp only[den,h0]
 have d2:den ν L (ck c)=renS ν (.own b ls bs):=by simp only[den,h1]
 rw[o1,o1]
 simp only[renS,renP,renL,Slot.lf]at d1 d2⊢
 cases hν:ν b with
 |none=>rw[hν]at d2;exact i4 fun g w a hr=>i6 hr d2
 |some p=>
  rw[hν]at d2
  simp only at d2⊢
  cases hq:ν q with
  |some p1=>
   rw[hq]at d1
   simp only at d1
   have hb:(bs.map (renB ν))[j]? =some (.mk p1.1 p1.2 e sz rows):=by rw[List.getElem?_map,h3];simp only[Option.map_some,renB,hq]
   rw[List.map_set]
   intro g w a hr
   obtain⟨g',τ,k1,k2⟩:=V1 t c p.1 j p1.1 p1.2 n e sz _ _ rows d2 hb d1 hn g w a hr
   subst k1
   obtain⟨g2,τ2,k3,k4⟩:=C0 t p1.1 p1.2 e sz rows (a8 ..) g' w a k2
   subst k3
   refine⟨g2,_,?_,k4⟩
   rw[j7]
   rfl
  |none=>
   rw[hq]at d1
   simp only at d1
   cases rows with
   |cons r rs=>exact i4 fun g w a hr=>A6 (j:=j) hr d2 (by rw[List.getElem?_map,h3];simp only[Option.map_some,renB,hq];rfl)
   |nil=>
    have hn0:n=0:=hn
    subst hn0
    simp only[if_true]at d1
    have e2:(bs.set j .no).map (renB ν)=bs.map (renB ν):=p4 h3 (by simp only[renB,hq];rfl)
    rw[e2,I1 d2]
    exact M0 t sz d1
def resG (T:Tab)(L:SL):List ResultVar→Option (List Part)
 |[]=>some []
 | .tmp t::rs=>match look L (tk t),resG T L rs with
  | .one p,some ps=>bif p.bare&&p.told then some (p::ps)else none
  |_,_=>none
 | .cell a ty::rs=>match look L (ck a),look L (tk a),resG T L rs with
  | .cell b ls,.one (.lf (.ptr b' 0)),some ps=>match T.get ty with
   |some ti=>bif Nat.beq b b'&&(ls.all Leaf.bare&&(ti.sh.agg&&Nat.beq ls.length ti.size))then some (.agg ls::ps)else none
   |none=>none
  |_,_,_=>none
theorem Y0 {P:Program}{T:Tab}{E:Env}{g:Nat→Tag}{w:World}{a:Act}{ν:Nm}{L:SL}{τ:St}(hT:TabOK P T)(hr:Rel E g w a τ)(h:Weak τ (den ν L)):
 ∀{rs:List ResultVar} {ps:List Part},resG T L rs=some ps→resParts τ rs=some (ps.map (renP ν))∧resLen P (ps.map (renP ν)) rs∧(∀p∈ps,p.bare=true)
 |[],ps,e=>by cases e;exact⟨rfl,fun i t ty p h1=>by simp at h1,fun p h=>by cases h⟩
 | .tmp t::rs,ps,e=>by
  simp only[resG]at e
  split at e
  ·rename_i p ps' h1 h2
   cases hb:p.bare&&p.told with
   |false=>rw[hb]at e;cases e
   |true=>
    rw[hb]at e
    cases e
    rw[Bool.and_eq_true]at hb
    obtain⟨k1,k2,k3⟩:=Y0 hT hr h h2
    have ht:τ (tk t)= .one (renP ν p):=n8 h (by rw[h1];rfl) (a2R hb.2)
    refine⟨by simp only[resParts,resPart,ht,k1,List.map_cons],fun i t' ty p' e1 e2=> ?_,fun q hq=> ?_⟩
    ·cases i with
     |zero=>simp at e1
     |succ i=>exact k2 i t' ty p' (by simpa using e1) (by simpa using e2)
    ·rcases List.mem_cons.1 hq with rfl|hq
     ·exact hb.1
     ·exact k3 q hq
  ·cases e
 | .cell x ty::rs,ps,e=>by
  simp only[resG]at e
  split at e
  ·rename_i b ls b' ps' h1 h2 h3
   split at e
   ·rename_i ti hti
    cases hb:Nat.beq b b'&&(ls.all Leaf.bare&&(ti.sh.agg&&Nat.beq ls.length ti.size))with
    |false=>rw[hb]at e;cases e
    |true=>
     rw[hb]at e
     cases e
     rw[Bool.and_eq_true,Bool.and_eq_true,Bool.and_eq_true]at hb
     obtain⟨hb1,hb2,hb3,hb4⟩:=hb
     obtain rfl:=Nat.eq_of_beq_eq_true hb1
     obtain⟨k1,k2,k3⟩:=Y0 hT hr h h3
     cases hν:ν b with
     |none=>
      exact(i6 hr (n8 h (k:=ck x) (s:= .lf badLeaf) (by rw[h1];simp only[renS,hν]) (by intro e0;cases e0))).elim
     |some q=>
      have ht:τ (ck x)= .cell q.1 (ls.map (renL ν)):=n8 h (by rw[h1];simp only[renS,hν]) (by intro e0;cases e0)
      have ht2:τ (tk x)= .one (.lf (.ptr q.1 0)):=n8 h (by rw[h2];simp only[renS,renP,renL,hν]) (by intro e0;cases e0)
      have hall:(ls.map (renL ν)).all Leaf.bare=true:=v8 hb2
      refine⟨by simp only[resParts,resPart,ht,ht2,k1,hall,and_self,if_true,List.map_cons,renP],fun i t' ty' p' e1 e2=> ?_,fun p hp=> ?_⟩
      ·cases i with
       |zero=>
        simp only[List.getElem?_cons_zero,Option.some.injEq,List.map_cons]at e1 e2
        cases e1
        subst e2
        have:=(hT.get hti).ty
        rw[hb3]at this
        refine⟨ti.size,this,fun ls' e0=> ?_⟩
        simp only[renP,Part.agg.injEq]at e0
        subst e0
        rw[List.length_map]
        exact Nat.eq_of_beq_eq_true hb4
       |succ i=>exact k2 i t' ty' p' (by simpa using e1) (by simpa using e2)
      ·rcases List.mem_cons.1 hp with rfl|hp
       ·exact hb2
       ·exact k3 p hp
   ·cases e
  ·cases e
structure FinG (T:Tab)(rs:List ResultVar)(R:Slot→Slot→Prop)(e:Exit)(L:SL):Prop where
 exit:e= .ret∨e= .normal
 res:∃ps,resG T L rs=some ps∧(look L 1).isOb=true∧R (look L 1) (slotOf ps)
variable {P:Program} {T:Tab} {R:Slot→Slot→Prop}
theorem CallGE {f:FuncId}{fn:Func}{c:Code}{o:Slot}{args:List Part}(hT:TabOK P T)(hm:P.follows .mixedOrders=true)(hf:P.funcs[f]? =some fn)(hb:fn.body=some c)
 (hn:fn.ntmps=n) (hna:Nat.ble args.length n=true) (hro:resOK fn.results.toList=true)
 (h:EW P T n c ((1,o)::argL args 0) (FinG T fn.results.toList R)):∃o' s,R o' s∧CallGX P f args o o' s:=by
 obtain⟨e,L',⟨hexit,ps,hps,hob,hR⟩,hr⟩:=h.ex
 refine⟨look L' 1,slotOf ps,hR,fun ν=>CallU.body hf hb (by rw[hn,List.length_map];exact Nat.le_of_ble_eq_true hna) fun E hE=> ?_⟩
 have hx:=(hr E ⟨hT,by rw[hE,hn],hm⟩).run ν
 have hw0:Weak (stU (renS ν o) (args.map (renP ν))) (den ν ((1,o)::argL args 0)):=fun k=>by
  unfold stU
  simp only[den,n5]
  by_cases h1:k=1
  ·subst h1;left;simp only[if_true,upd]
  ·rw[if_neg h1,d4 _ _ h1]
   rcases G8 args 0 k with e|⟨q,p,e1,e2,e3⟩
   ·right;rw[e];rfl
   ·left
    rw[e3]
    subst e1
    have k1:tk (0+q)%2=0:=by unfold tk;omega
    have k2:tk (0+q)/2=q:=by unfold tk;omega
    simp[st0,k1,k2,e2,renS]
 refine D8 (Turn.weaken hw0) fun τ e0=> ?_
 subst e0
 refine VW.rel hx fun e τ g w a ⟨ν',L1,⟨h1,h2⟩,hw,hk⟩ hrel=> ?_
 subst h1 h2
 obtain⟨k1,k2,k3⟩:=Y0 hT hrel hw hps
 refine⟨hexit,ps.map (renP ν'),k1,H5 hro,k2,fun p hp=> ?_,fun q p hq hp=>by(cases hq),renS ν' (look L1 1),.inl ?_,?_,ν',hk,rfl,?_⟩
 ·obtain⟨p0,hp0,rfl⟩:=List.mem_map.1 hp
  exact A0 (k3 p0 hp0)
 ·refine(n8 hw (k:=1) rfl ?_).symm
  cases hs:look L1 1 with
  |own b1 ls bs=>simp only[renS];cases ν' b1<;>intro e0<;>cases e0
  |cell b1 ls=>simp only[renS];cases ν' b1<;>intro e0<;>cases e0
  |one p=>rw[hs]at hob;cases hob
  |tup ps=>rw[hs]at hob;cases hob
  |obj b T e s=>rw[hs]at hob;cases hob
 ·refine u7 ?_
  cases hs:look L1 1 with
  |own b1 ls bs=>rw[hs]at hob;exact(Bool.and_eq_true_iff.1 hob).2
  |cell b1 ls=>rw[hs]at hob;exact(Bool.and_eq_true_iff.1 hob).2
  |one p=>rw[hs]at hob;cases hob
  |tup ps=>rw[hs]at hob;cases hob
  |obj b T e s=>rw[hs]at hob;cases hob
 ·rw[a0d]
theorem eretG {rs:List ResultVar}{K:Exit→SL→Prop}(o:Slot)(ps:List Part)(hQ:K .ret L=FinG T rs R .ret L)(h:resG T L rs=some ps)
 (hl:look L 1=o) (ho:o.isOb=true) (hR:R o (slotOf ps)):EW P T n .ret L K:=
 a1h (hQ▸⟨.inl rfl,ps,h,by rw[hl];exact ho,by rw[hl];exact hR⟩)
end Go.Proofs.Ytjfjdgjhihgdkaa.V
namespace Go.Proofs.Ytjfjdgjhihgdkaa.V
open Go Go.RowKit
variable {sz i j:Nat} {rows:List (List SV)} {r:List SV}
theorem RowsIn.nl {g:Nat→Tag}{w:World}{cur:Array Value}(h:RowsIn g w cur sz rows){s:Nat}(h1:rows[i]? =some r)(h2:r[j]? =some .nl):
 RowsIn g w cur sz (putHd rows i j (.sl s [])):=by
 refine⟨fun q hq=> ?_,fun i' q j' x hq hx=> ?_⟩
 ·obtain⟨p,hp⟩:=List.mem_iff_getElem?.1 hq
  unfold putHd at hp
  rw[List.getElem?_modify]at hp
  cases hp0:rows[p]? with
  |none=>rw[hp0]at hp;cases hp
  |some r0=>
   rw[hp0]at hp
   have h9:=h.1 r0 (List.mem_iff_getElem?.2 ⟨p,hp0⟩)
   by_cases hi:i=p
   ·simp only[hi,if_true,Option.map_eq_map,Option.map_some,Option.some.injEq]at hp
    subst hp;rw[List.length_set];exact h9
   ·simp only[if_neg hi,Option.map_eq_map,Option.map_some,id,Option.some.injEq]at hp
    subst hp;exact h9
 ·unfold putHd at hq
  rw[List.getElem?_modify]at hq
  cases hp0:rows[i']? with
  |none=>rw[hp0]at hq;cases hq
  |some r0=>
   rw[hp0]at hq
   by_cases hi:i=i'
   ·subst hi
    simp only[if_true,Option.map_eq_map,Option.map_some,Option.some.injEq]at hq
    subst hq
    rw[h1]at hp0
    cases hp0
    rw[List.getElem?_set]at hx
    by_cases hj:j=j'
    ·subst hj
     simp only[if_true]at hx
     split at hx
     ·cases hx
      obtain⟨y,hy,hs⟩:=h.2 i r j .nl h1 h2
      refine⟨y,hy,?_⟩
      obtain⟨a,rfl⟩:=hs.nl_form
      exact .nil s a 0
     ·cases hx
    ·rw[if_neg hj]at hx;exact h.2 i r j' x h1 hx
   ·simp only[if_neg hi,Option.map_eq_map,Option.map_some,id,Option.some.injEq]at hq
    subst hq
    exact h.2 i' r0 j' x hp0 hx
variable {E:Env} {σ:St}
theorem a59 (c b q i j s q1 c1 e sz:Nat)(ls:List Leaf)(bs:List Blk)(rows:List (List SV))(r:List SV)(hc:σ (ck c)= .own b ls bs)(hq:bs[q]? =some (.mk q1 c1 e sz rows))(h1:rows[i]? =some r)(h2:r[j]? =some .nl):
 Turn E σ (·=upd σ (ck c) (.own b ls (bs.set q (.mk q1 c1 e sz (putHd rows i j (.sl s [])))))):=by
 intro g w a h
 have hcell:=h.cell c
 rw[hc]at hcell
 obtain⟨h0,hbs⟩:=hcell
 refine⟨g,_,rfl,h.putCell c _ ⟨h0,fun q' B hB=> ?_⟩⟩
 by_cases e1:q=q'
 ·subst e1
  rw[List.getElem?_set_self (List.getElem?_eq_some_iff.1 hq).1]at hB
  cases hB
  obtain⟨k1,k2,k3,cur,k4,k5,k6⟩:=hbs q _ hq
  have hl:(putHd rows i j (.sl s [])).length=rows.length:=by simp[putHd]
  exact⟨k1,by rw[hl];exact k2,k3,cur,k4,k5,k6.nl h1 h2⟩
 ·rw[List.getElem?_set_ne e1]at hB
  exact hbs q' B hB
variable {L:SL} {b e:Nat} {ls:List Leaf} {bs:List Blk}
theorem a3y {q1 c1:Nat}(c q s:Nat)(h:look L (ck c)= .own b ls bs)(hq:bs[q]? =some (.mk q1 c1 e sz rows))(h1:rows[i]? =some r)(h2:r[j]? =some .nl):
 Tu E L ((ck c,.own b ls (bs.set q (.mk q1 0 e sz (putHd rows i j (.sl s [])))))::L):=by
 intro ν
 have d2:den ν L (ck c)=renS ν (.own b ls bs):=by simp only[den,h]
 rw[o1]
 simp only[renS]at d2⊢
 cases hν:ν b with
 |none=>rw[hν]at d2;exact i4 fun g w a hr=>i6 hr d2
 |some p=>
  rw[hν]at d2
  simp only at d2⊢
  have hb:(bs.map (renB ν))[q]? =some (renB ν (.mk q1 c1 e sz rows)):=by rw[List.getElem?_map,hq];rfl
  cases hq1:ν q1 with
  |none=>
   refine i4 fun g w a hr=>A6 (j:=q) hr d2 ?_
   rw[hb]
   cases rows with
   |nil=>simp at h1
   |cons x xs=>simp only[renB,hq1];rfl
  |some p1=>
   simp only[renB,hq1]at hb
   rw[List.map_set]
   simp only[renB,hq1]
   exact a59 c p.1 q i j s p1.1 p1.2 e sz _ _ rows r d2 hb h1 h2
variable {P:Program} {T:Tab} {n:Nat} {c:Code}
theorem e_swap {K:Exit→SL→Prop}(x y:Nat)(L':SL)(h:swapL x y L=L')(hc:EW P T n c L' K)(ho:swapN x y obN=obN:=by rfl):EW P T n c L K:=by
 obtain⟨e,L1,hk,hr⟩:=hc.ex
 exact⟨e,L1,hk,fun E cx=>a67 x y L' h (hr E cx) ho⟩
variable {rows2 rows3:List (List SV)} {bytes:Nat}
theorem gapH {kt:Nat}{y:Operand}(e:rows++rows2=rows3)(hn:n=rows.length)(h1:rows.length+rows2.length≤100000)(hb:bytes≤1000)(h3:rows2≠[])(h4:y≠.tmp kt):
 AllP [rows++rows2=rows3,n=rows.length,(rows.length+rows2.length)*bytes≤140737488355328,rows.length+rows2.length≤maxLen,rows2≠[],y≠.tmp kt]:=
 ⟨e,hn,by have:=Nat.mul_le_mul h1 hb;omega,by unfold maxLen;omega,h3,h4,trivial⟩
theorem gapZ (e:rows2=rows3)(h1:rows2.length≤100000)(hb:bytes≤1000)(h3:rows2≠[]):
 AllP [rows2=rows3,rows2.length*bytes≤140737488355328,rows2.length≤maxLen,rows2≠[]]:=
 ⟨e,by have:=Nat.mul_le_mul h1 hb;omega,by unfold maxLen;omega,h3,trivial⟩
variable {off:Nat}
theorem helT (h1:rows[i]? =some r)(h2:r.length=sz)(h3:off=i*sz+j)(h4:j+1≤sz):AllP [rows[i]? =some r,r.length=sz,off=i*sz+j,j+1≤sz]:=⟨h1,h2,h3,h4,trivial⟩
variable {n2:Nat}
theorem hstT (h1:rows[i]? =some r)(h2:r.length=sz)(h3:off=i*sz+j)(h4:j+1≤sz)(h5:n2≠0):AllP [rows[i]? =some r,r.length=sz,off=i*sz+j,j+1≤sz,n2≠0]:=⟨h1,h2,h3,h4,h5,trivial⟩
theorem hstT2 {i' j':Nat}(h1:rows[i]? =some r)(h2:r.length=sz)(h3:off=i*sz+j)(h4:j+1≤sz)(h5:n2≠0)(h6:i'=i)(h7:j'=j):AllP [rows[i]? =some r,r.length=sz,off=i*sz+j,j+1≤sz,n2≠0,i'=i,j'=j]:=⟨h1,h2,h3,h4,h5,h6,h7,trivial⟩
variable {f:FuncId}
theorem cgT {ps:List Part}{o o' s:Slot}(h:Text P f)(hc:CallGX P f ps o o' s):AllP [Text P f,CallGX P f ps o o' s]:=⟨h,hc,trivial⟩
theorem elR (h:rows[i]? =some r)(ho:off=i*sz+j)(hn:j+n≤sz):AllP [rows[i]? =some r,off=i*sz+j,j+n≤sz]:=⟨h,ho,hn,trivial⟩
theorem a4M (c b c1 b1 i j q qc n e sz:Nat)(ls ls1:List Leaf)(bs:List Blk)(rows:List (List SV))(hne:c≠c1)(hc:σ (ck c)= .own b ls bs)(hc1:σ (ck c1)= .cell b1 ls1)(hi:ls1[i]? =some (.hd q n qc))(hj:bs[j]? =some (.mk q qc e sz rows))(hn:n=rows.length):
 Turn E σ (·=upd (upd σ (ck c) (.own b ls (bs.set j .no))) (ck c1) (.cell b1 (ls1.set i (.im true (.sl sz rows))))):=by
 intro g w a h
 have hcell:=h.cell c
 rw[hc]at hcell
 obtain⟨⟨cur,e0,hg,hh,hl⟩,hbs⟩:=hcell
 have hcell1:=h.cell c1
 rw[hc1]at hcell1
 obtain⟨cur1,e1',hg1,hh1,hl1⟩:=hcell1
 obtain⟨k1,k2,k3,cur2,k4,k5,k6⟩:=hbs j _ hj
 have hcc:ck c≠ck c1:=fun e=>hne (E9 e)
 have hlt:q<w.heap.size:=(Array.getElem?_eq_some_iff.1 k4).1
 have hqb:∀x k' i' j',g x= .own k' i' j'→(k',i',j')≠(ck c,2,j)→x≠q:=fun x k' i' j' hx hne e1=>by subst e1;rw[k1]at hx;cases hx;exact hne rfl
 have hr:Rel E (fun x=>if x=q then .imm else g x) w a (upd (upd σ (ck c) (.own b ls (bs.set j .no))) (ck c1) (.cell b1 (ls1.set i (.im true (.sl sz rows))))):=by
  have hS:∀sh x,Imm g sh x→Imm (fun x=>if x=q then Tag.imm else g x) sh x∧w.heap[x]? =w.heap[x]? :=fun sh x hx=>⟨by
   unfold Imm at hx⊢
   by_cases e1:x=q
   ·left;simp[e1]
   ·simp only[if_neg e1];exact hx,rfl⟩
  have hweak:∀x,g x= .weak→(fun x=>if x=q then Tag.imm else g x) x= .weak∧w.heap[x]? =w.heap[x]? :=fun x hx=>⟨by
   have:x≠q:=fun e1=>by subst e1;rw[k1]at hx;cases hx
   show(if x=q then Tag.imm else g x)= .weak
   rw[if_neg this];exact hx,rfl⟩
  refine h.turn (fun k=>k=ck c∨k=ck c1) h.defers rfl rfl rfl (Nat.le_refl _) (fun _ _ _=>rfl) ?_ (fun k hk=>by rw[d4 _ _ (fun e=>hk (.inr e)),d4 _ _ (fun e=>hk (.inl e))]) rfl (fun _ _=>rfl) (fun t ht=>by rcases ht with ht|ht<;>exact absurd ht (v7 _ _)) ?_ ?_ ?_ ?_ ?_ ?_ (fun b e=>by
   split at e
   ·cases e
   ·exact e)
  ·intro x hx _
   have:x≠q:=fun e1=>by subst e1;exact hx _ _ _ k1 (.inl rfl)
   rw[if_neg this]
  ·intro t' ht'
   rcases ht' with ht'|ht'
   ·have et:=E9 ht'
    subst et
    rw[d4 _ _ hcc,a8]
    have hO:∀x i' j',g x= .own (ck t') i' j'→(i',j')≠(2,j)→(if x=q then Tag.imm else g x)= .own (ck t') i' j':=fun x i' j' hx hne=>by
     rw[if_neg (hqb x _ _ _ hx (fun e1=>hne (by cases e1;rfl)))];exact hx
    refine⟨⟨cur,e0,hO b 1 0 hg (by intro e1;cases e1),hh,hl.1,fun i' l v h1 h2=>(hl.2 i' l v h1 h2).to hS fun x hx=>⟨hO x 0 i' hx (by intro e1;cases e1),rfl⟩⟩,fun i' B hB=> ?_⟩
    by_cases ei:i'=j
    ·subst ei
     rw[List.getElem?_set_self (List.getElem?_eq_some_iff.1 hj).1]at hB
     cases hB;trivial
    ·rw[List.getElem?_set_ne (fun e1=>ei e1.symm)]at hB
     exact(hbs i' B hB).to hS fun x hx=>⟨hO x 2 i' hx (by intro e1;cases e1;exact ei rfl),rfl⟩
   ·have et:=E9 ht'
    subst et
    rw[a8]
    have hO:∀x i' j',g x= .own (ck t') i' j'→(if x=q then Tag.imm else g x)= .own (ck t') i' j':=fun x i' j' hx=>by
     rw[if_neg (hqb x _ _ _ hx (fun e1=>hcc (congrArg Prod.fst e1).symm))];exact hx
    refine⟨cur1,e1',hO b1 1 0 hg1,hh1,by rw[List.length_set];exact hl1.1,fun i' l v h1 h2=> ?_⟩
    by_cases ei:i'=i
    ·subst ei
     rw[List.getElem?_set_self (List.getElem?_eq_some_iff.1 hi).1]at h1
     cases h1
     have hv:=hl1.2 i' _ v hi h2
     have hv:v= .slice (some ⟨q,0,none⟩) n qc:=hv
     show SRep _ _ _ _
     rw[hv,hn]
     refine k6.data k4 (by rw[←hn]at*;exact k2) _ (fun x hx=> .inl (by by_cases e1:x=q<;>simp[e1,hx])) (.inl (by simp))
    ·rw[List.getElem?_set_ne (fun e1=>ei e1.symm)]at h1
     exact(hl1.2 i' l v h1 h2).to hS fun x hx=>⟨hO x 0 i' hx,rfl⟩
  ·intro x hx
   rw[if_neg (by omega)];exact h.fresh x hx
  ·intro x k' i' j' hx
   split at hx
   ·cases hx
   ·exact h.mine x k' i' j' hx
  ·intro x x' k' i' j' hx hx'
   split at hx
   ·cases hx
   ·split at hx'
    ·cases hx'
    ·exact h.uniq x x' k' i' j' hx hx'
  ·intro x hx hm
   have:x≠q:=fun e1=>by subst e1;rcases h.mine x _ _ _ k1 with h1|h1;omega;exact hm h1
   rw[if_neg this]
  ·intro x hx e1
   by_cases e2:x=q
   ·subst e2;exact⟨cur2,_,k4⟩
   ·simp only[if_neg e2]at e1;exact h.soft x hx e1
 exact⟨_,_,rfl,hr⟩
theorem a33 (c1 b1 i sz:Nat)(ls1:List Leaf)(hc1:σ (ck c1)= .cell b1 ls1)(hi:ls1[i]? =some .nil):Turn E σ (·=upd σ (ck c1) (.cell b1 (ls1.set i (.im true (.sl sz []))))):=by
 intro g w a h
 have hcell:=h.cell c1
 rw[hc1]at hcell
 obtain⟨cur,e,hg,hh,hl⟩:=hcell
 refine⟨g,_,rfl,h.putCell c1 _ ⟨cur,e,hg,hh,by rw[List.length_set];exact hl.1,fun j l v h1 h2=> ?_⟩⟩
 by_cases ej:j=i
 ·subst ej
  rw[List.getElem?_set_self (List.getElem?_eq_some_iff.1 hi).1]at h1
  cases h1
  have:=hl.2 j _ v hi h2
  have e1:v= .slice none 0 0:=this
  subst e1
  exact SRep.nil _ _ _
 ·rw[List.getElem?_set_ne (fun e1=>ej e1.symm)]at h1
  exact hl.2 j l v h1 h2
theorem l9 {b1 q qc qc':Nat}{ls1:List Leaf}(c c1 i j:Nat)(h1:look L (ck c)= .own b ls bs)(h4:look L (ck c1)= .cell b1 ls1)(h2:ls1[i]? =some (.hd q n qc))(h3:bs[j]? =some (.mk q qc' e sz rows))(hn:n=rows.length)(hne:Nat.beq c c1=false):
 Tu E L ((ck c1,.cell b1 (ls1.set i (.im true (.sl sz rows))))::(ck c,.own b ls (bs.set j .no))::L):=by
 intro ν
 have hne':c≠c1:=fun e=>by subst e;simp at hne
 have d2:den ν L (ck c)=renS ν (.own b ls bs):=by simp only[den,h1]
 have d3:den ν L (ck c1)=renS ν (.cell b1 ls1):=by simp only[den,h4]
 rw[o1,o1]
 simp only[renS]at d2 d3⊢
 cases hν:ν b with
 |none=>rw[hν]at d2;exact i4 fun g w a hr=>i6 hr d2
 |some p=>
  cases hν1:ν b1 with
  |none=>rw[hν1]at d3;exact i4 fun g w a hr=>i6 hr d3
  |some p3=>
   rw[hν]at d2
   rw[hν1]at d3
   simp only at d2 d3⊢
   rw[List.map_set,List.map_set]
   simp only[renL,renB]
   cases hq:ν q with
   |some p1=>
    have hl:(ls1.map (renL ν))[i]? =some (.hd p1.1 n p1.2):=by rw[List.getElem?_map,h2];simp only[Option.map_some,renL,hq]
    have hb:(bs.map (renB ν))[j]? =some (.mk p1.1 p1.2 e sz rows):=by rw[List.getElem?_map,h3];simp only[Option.map_some,renB,hq]
    exact a4M c p.1 c1 p3.1 i j p1.1 p1.2 n e sz _ _ _ rows hne' d2 d3 hl hb hn
   |none=>
    cases rows with
    |cons r rs=>exact i4 fun g w a hr=>A6 (j:=j) hr d2 (by rw[List.getElem?_map,h3];simp only[Option.map_some,renB,hq];rfl)
    |nil=>
     have hn0:n=0:=hn
     subst hn0
     have hl:(ls1.map (renL ν))[i]? =some .nil:=by rw[List.getElem?_map,h2];simp only[Option.map_some,renL,hq,if_true]
     have hb:(bs.map (renB ν))[j]? =some .no:=by rw[List.getElem?_map,h3];simp only[Option.map_some,renB,hq];rfl
     have e1:(bs.map (renB ν)).set j .no=bs.map (renB ν):=by
      have:=p4 (f:=id) (x:=Blk.no) hb rfl
      simpa using this
     rw[e1,I1 d2]
     exact a33 c1 p3.1 i sz _ d3 hl
theorem a5d (c b j:Nat)(ls:List Leaf)(bs:List Blk)(hc:σ (ck c)= .own b ls bs):Turn E σ (·=upd σ (ck c) (.own b ls (bs.set j .no))):=by
 intro g w a h
 have hcell:=h.cell c
 rw[hc]at hcell
 obtain⟨h0,hbs⟩:=hcell
 refine⟨g,_,rfl,h.putCell c _ ⟨h0,fun j' B hB=> ?_⟩⟩
 by_cases e1:j=j'
 ·subst e1
  rw[List.getElem?_set]at hB
  simp only[if_true]at hB
  split at hB
  ·cases hB;trivial
  ·cases hB
 ·rw[List.getElem?_set_ne e1]at hB
  exact hbs j' B hB
theorem a62 (c j:Nat)(h:look L (ck c)= .own b ls bs):Tu E L ((ck c,.own b ls (bs.set j .no))::L):=by
 intro ν
 have d2:den ν L (ck c)=renS ν (.own b ls bs):=by simp only[den,h]
 rw[o1]
 simp only[renS]at d2⊢
 cases hν:ν b with
 |none=>rw[hν]at d2;exact i4 fun g w a hr=>i6 hr d2
 |some p=>
  rw[hν]at d2
  rw[List.map_set]
  exact a5d c p.1 j _ _ d2
theorem a6z (c b i sz:Nat)(ls:List Leaf)(sh:Bool)(hc:σ (ck c)= .cell b ls)(hi:ls[i]? =some (.im sh .nl)):Turn E σ (·=upd σ (ck c) (.cell b (ls.set i (.im sh (.sl sz []))))):=by
 intro g w a h
 have hcell:=h.cell c
 rw[hc]at hcell
 obtain⟨cur,e,hg,hh,hl⟩:=hcell
 refine⟨g,_,rfl,h.putCell c _ ⟨cur,e,hg,hh,by rw[List.length_set];exact hl.1,fun j l v h1 h2=> ?_⟩⟩
 by_cases ej:j=i
 ·subst ej
  rw[List.getElem?_set_self (List.getElem?_eq_some_iff.1 hi).1]at h1
  cases h1
  have h9:SRep (Imm g sh) w v .nl:=hl.2 j _ v hi h2
  obtain⟨a,rfl⟩:=h9.nl_form
  exact SRep.nil _ _ _
 ·rw[List.getElem?_set_ne (fun e1=>ej e1.symm)]at h1
  exact hl.2 j l v h1 h2
theorem Z3 {sh:Bool}(c i sz:Nat)(h:look L (ck c)= .cell b ls)(hi:ls[i]? =some (.im sh .nl)):Tu E L ((ck c,.cell b (ls.set i (.im sh (.sl sz []))))::L):=by
 intro ν
 have hd:den ν L (ck c)=renS ν (.cell b ls):=by simp only[den,h]
 rw[o1]
 simp only[renS]at hd⊢
 cases hν:ν b with
 |none=>rw[hν]at hd;exact i4 fun g w a hr=>i6 hr hd
 |some p=>
  rw[hν]at hd
  rw[List.map_set]
  exact a6z c p.1 i sz _ sh hd (by rw[List.getElem?_map,hi];rfl)
theorem gapN (x:SV)(hb:bytes≤1000):AllP [∀b n c,ScalarH (putHd [[x]] 0 0 (.hd b n c)),([[x]]:List (List SV)).length*bytes≤140737488355328,([[x]]:List (List SV)).length≤maxLen,([[x]]:List (List SV))≠[]]:=
 ⟨fun b n c r hr y hy=>by
  simp[putHd]at hr
  subst hr
  simp at hy
  exact .inr ⟨b,n,c,hy⟩,by simp;omega,by unfold maxLen;simp,by simp,trivial⟩
theorem a4n (a0 c b:Nat)(ls:List Leaf)(hac:a0≠c)(ha:σ (ck a0)= .cell b ls)(hcl:ls.all Leaf.closed=true):Turn E σ (·=upd (upd σ (ck a0) Slot.hole) (ck c) (.cell b ls)):=by
 intro g0 w a h0
 have h:=h0.forget (ck c)
 have hne:ck a0≠ck c:=fun e=>hac (E9 e)
 generalize hg:drop (ck c) g0=g at h
 have hfree:Free g (ck c):=by rw[←hg];exact y4 _ _
 have hcell:=h.cell a0
 rw[d4 _ _ hne,ha]at hcell
 obtain⟨cur,e0,hgb,hh,hl⟩:=hcell
 have hlt:b<w.heap.size:=(Array.getElem?_eq_some_iff.1 hh).1
 have hb:∀x k' i' j',g x= .own k' i' j'→(k',i',j')≠(ck a0,1,0)→x≠b:=fun x k' i' j' hx hne e1=>by subst e1;rw[hgb]at hx;cases hx;exact hne rfl
 refine⟨fun x=>if x=b then .own (ck c) 1 0 else g x,_,rfl,?_⟩
 have e9:upd (upd σ (ck a0) Slot.hole) (ck c) (.cell b ls)=upd (upd (upd σ (ck c) Slot.hole) (ck a0) Slot.hole) (ck c) (.cell b ls):=by
  funext q
  by_cases e1:q=ck c
  ·subst e1;rw[a8,a8]
  ·rw[d4 _ _ e1,d4 _ _ e1]
   by_cases e2:q=ck a0
   ·subst e2;rw[a8,a8]
   ·rw[d4 _ _ e2,d4 _ _ e2,d4 _ _ e1]
 rw[e9]
 refine h.turn (fun k=>k=ck a0∨k=ck c) h.defers rfl rfl rfl (Nat.le_refl _) (fun _ _ _=>rfl) ?_ (fun k hk=>by rw[d4 _ _ (fun e=>hk (.inr e)),d4 _ _ (fun e=>hk (.inl e))]) rfl (fun _ _=>rfl) (fun t ht=>by rcases ht with ht|ht<;>exact absurd ht (v7 _ _)) ?_ ?_ ?_ ?_ ?_ ?_ (fun x e=>by
  split at e
  ·cases e
  ·exact e)
 ·intro x hx _
  have:x≠b:=fun e1=>by subst e1;exact hx _ _ _ hgb (.inl rfl)
  rw[if_neg this]
 ·intro t' ht'
  rcases ht' with ht'|ht'
  ·have et:=E9 ht'
   subst et
   rw[d4 _ _ hne,a8];trivial
  ·have et:=E9 ht'
   subst et
   rw[a8]
   refine⟨cur,e0,by simp,hh,hl.1,fun j l v h1 h2=> ?_⟩
   have hc:=List.all_eq_true.1 hcl l (List.mem_of_getElem? h1)
   have hr:=hl.2 j l v h1 h2
   have hS:∀(sh:Bool) x,Imm g sh x→Imm (fun x=>if x=b then Tag.own (ck t') 1 0 else g x) sh x:=fun sh x hx=>by
    have hxb:x≠b:=fun e1=>by subst e1;rcases hx with e|⟨_,e⟩<;>rw[hgb]at e<;>cases e
    have e:(if x=b then Tag.own (ck t') 1 0 else g x)=g x:=if_neg hxb
    unfold Imm at hx⊢
    simp only[e];exact hx
   cases l with
   |im sh v=>exact SRep.mono hr (fun _ _=>rfl) fun x hx=>hS _ x hx
   |sref sh row=>
    obtain⟨q,off,k1,k2,k3⟩:=hr
    exact⟨q,off,k1,fun hn=>hS _ _ (k2 hn),fun j x hx=>let⟨y,hy,hs⟩:=k3 j x hx;⟨y,hy,hs.mono (fun _ _=>rfl) fun x hx=>hS _ x hx⟩⟩
   |nil=>exact hr
   |hole=>trivial
   |_=>cases hc
 ·intro x hx
  rw[if_neg (by omega)];exact h.fresh x hx
 ·intro x k' i' j' hx
  by_cases e1:x=b
  ·subst e1;exact h.mine x _ _ _ hgb
  ·rw[if_neg e1]at hx;exact h.mine x k' i' j' hx
 ·intro x x' k' i' j' hx hx'
  by_cases e1:x=b
  ·by_cases e2:x'=b
   ·rw[e1,e2]
   ·rw[if_pos e1]at hx;rw[if_neg e2]at hx';cases hx;exact absurd hx' (hfree _ _ _)
  ·rw[if_neg e1]at hx
   by_cases e2:x'=b
   ·rw[if_pos e2]at hx';cases hx';exact absurd hx (hfree _ _ _)
   ·rw[if_neg e2]at hx';exact h.uniq x x' k' i' j' hx hx'
 ·intro x hx hm
  have:x≠b:=fun e1=>by subst e1;rcases h.mine x _ _ _ hgb with h1|h1;omega;exact hm h1
  rw[if_neg this]
 ·intro x hx e1
  by_cases e2:x=b
  ·rw[if_pos e2]at e1;cases e1
  ·rw[if_neg e2]at e1;exact h.soft x hx e1
theorem a3F (a0 c:Nat)(hac:Nat.beq a0 c=false)(ha:look L (ck a0)= .cell b ls)(hcl:ls.all Leaf.closed=true):Tu E L ((ck c,.cell b ls)::(ck a0,Slot.hole)::L):=by
 intro ν
 have hac':a0≠c:=fun e=>by subst e;simp at hac
 have d2:den ν L (ck a0)=renS ν (.cell b ls):=by simp only[den,ha]
 rw[o1,o1]
 simp only[renS]at d2⊢
 cases hν:ν b with
 |none=>rw[hν]at d2;exact i4 fun g w a hr=>i6 hr d2
 |some p=>
  rw[hν]at d2
  have e:(ls.map (renL ν))=ls:=D5 fun l hl=>y7 (List.all_eq_true.1 hcl l hl)
  rw[e]at d2
  simp only[e]
  exact a4n a0 c p.1 ls hac' d2 hcl
structure FinP (t0:Nat)(R:List Leaf→Prop)(e:Exit)(L:SL):Prop where
 exit:e= .ret∨e= .normal
 res:∃nm ls,look L (tk t0)= .lf (.ptr nm 0)∧look L 1= .cell nm ls∧ls.all Leaf.closed=true∧R ls
theorem CallPE {fn:Func}{args:List Part}{R:List Leaf→Prop}{t0:Nat}(hT:TabOK P T)(hm:P.follows .mixedOrders=true)(hf:P.funcs[f]? =some fn)(hb:fn.body=some c)
 (hn:fn.ntmps=n) (hna:Nat.ble args.length n=true) (hcl:args.all Part.closed=true) (hres:fn.results= #[.tmp t0])
 (h:EW P T n c (argL args 0) (FinP t0 R)):∃ls,R ls∧CallPX P f args ls:=by
 obtain⟨e,L',⟨hexit,nm,ls,h1,h2,h3,hR⟩,hr⟩:=h.ex
 refine⟨ls,hR,CallU.body hf hb (by rw[hn];exact Nat.le_of_ble_eq_true hna) fun E hE=> ?_⟩
 have hx:=(hr E ⟨hT,by rw[hE,hn],hm⟩).run (fun _=>none)
 have hw0:Weak (stU Slot.hole args) (den (fun _=>none) (argL args 0)):=fun k=>by
  unfold stU
  rcases V3 (fun _=>none) args hcl k with e1|e1
  ·by_cases hk:k=1
   ·subst hk;rw[a8]
    have:den (fun _=>none) (argL args 0) 1=Slot.hole:=by
     simp only[den]
     rcases G8 args 0 1 with e|⟨q,p,e1,_,_⟩
     ·rw[e];rfl
     ·exfalso;unfold tk at e1;omega
    exact .inl this
   ·rw[d4 _ _ hk];exact .inl e1
  ·exact .inr e1
 refine D8 (Turn.weaken hw0) fun τ e0=> ?_
 subst e0
 refine VW.rel hx fun e τ g w a ⟨ν',L1,⟨k1,k2⟩,hw,hk⟩ hrel=> ?_
 subst k1 k2
 cases hν:ν' nm with
 |none=>exact(i6 hrel (show τ (ck 0)= .lf badLeaf from n8 hw (k:=1) (s:= .lf badLeaf) (by rw[h2];simp only[renS,hν]) (by intro e0;cases e0))).elim
 |some p=>
  have ht:τ (tk t0)= .lf (.ptr p.1 0):=n8 hw (by rw[h1];simp only[renS,renP,renL,hν]) (by intro e0;cases e0)
  have hc:τ 1= .cell p.1 ls:=n8 hw (by rw[h2];simp only[renS,hν];rw[D5 fun l hl=>y7 (List.all_eq_true.1 h3 l hl)]) (by intro e0;cases e0)
  refine⟨hexit,[.lf (.ptr p.1 0)],?_,?_,?_,?_,(fun q p hq=>by cases hq),.cell p.1 ls,.inl hc.symm,?_,p.1,rfl,rfl⟩
  ·rw[hres];simp only[resParts,resPart,ht]
  ·intro i t hi
   rw[hres]at hi⊢
   cases i with
   |zero=>simp at hi;subst hi;simp[resIdx,isTmp]
   |succ i=>simp at hi
  ·intro i t ty p hi
   rw[hres]at hi
   cases i with
   |zero=>simp at hi
   |succ i=>simp at hi
  ·intro p hp;simp at hp;subst hp;rfl
  ·show ls.all Leaf.firm=true
   exact List.all_eq_true.2 fun l hl=>Leaf.closed_firm (List.all_eq_true.1 h3 l hl)
end Go.Proofs.Ytjfjdgjhihgdkaa.V
namespace Go.Proofs.Ytjfjdgjhihgdkaa.V
open Go Go.RowKit
def rvA :SL→SL→SL
 |[],a=>a
 |x::t,a=>rvA t (x::a)
def rvO :SL→SL→Option SL
 |[],a=>some a
 |x::t,a=>rvO t (x::a)
def insK (k:Nat)(v:Slot):SL→SL
 |[]=>[(k,v)]
 |(j,w)::t=>match Nat.beq k j with
  |true=>(k,v)::t
  |false=>match Nat.blt k j with
   |true=>(k,v)::(j,w)::t
   |false=>(j,w)::insK k v t
def insA :SL→SL→SL
 |[],L=>L
 |(k,v)::n,L=>insA n (insK k v L)
def hasK (k:Nat):List Nat→Bool
 |[]=>false
 |j::t=>match Nat.beq k j with
  |true=>true
  |false=>hasK k t
def drpA (d:List Nat):SL→SL
 |[]=>[]
 |(k,v)::t=>match hasK k d with
  |true=>drpA d t
  |false=>(k,v)::drpA d t
def upL (d:List Nat)(n L:SL):Option SL:=rvO (rvA (insA n (drpA d L)) []) []
variable {P:Program} {T:Tab} {n:Nat}
variable {L L':SL} {cs:List Prop} {K:Exit→SL→Prop}
theorem exd {id:Nat}{ops:Array Oper}{dr:Bool}{y:Code}(d:List Nat)(m:SL)(W:Wits)(hcs:AllP cs)(hy:EW P T n y L' K)(hu:upL d m L=some L':=by rfl)
 (h:runR P T n ops dr W L (L'.map Prod.fst)=some (L',cs):=by kernel_rfl):EW P T n (.seq (.region id ops dr) y) L K:=ex L' W hcs h hy
theorem exed {id:Nat}{ops:Array Oper}{dr:Bool}(d:List Nat)(m:SL)(W:Wits)(hcs:AllP cs)(hK:K .normal L')(hu:upL d m L=some L':=by rfl)
 (h:runR P T n ops dr W L (L'.map Prod.fst)=some (L',cs):=by kernel_rfl):EW P T n (.region id ops dr) L K:=exe L' W hcs h hK
variable {P:Program} {T:Tab} {n:Nat} {E:Env} {R:Exit→SL→Prop}
theorem vxd {id:Nat}{ops:Array Oper}{dr:Bool}{y:Code}(c:Cx P T n E)(d:List Nat)(m:SL)(W:Wits)
 (hcs:AllP cs) (hy:XW P E y L' R) (hu:upL d m L=some L':=by rfl) (h:runR P T n ops dr W L (L'.map Prod.fst)=some (L',cs):=by kernel_rfl):XW P E (.seq (.region id ops dr) y) L R:=vx c L' W hcs h hy
theorem vxed {id:Nat}{ops:Array Oper}{dr:Bool}(c:Cx P T n E)(d:List Nat)(m:SL)(W:Wits)
 (hcs:AllP cs) (hR:R .normal L') (hu:upL d m L=some L':=by rfl) (h:runR P T n ops dr W L (L'.map Prod.fst)=some (L',cs):=by kernel_rfl):XW P E (.region id ops dr) L R:=vxe c L' W hcs h hR
theorem exn {id:Nat}{ops:Array Oper}{dr:Bool}{y:Code}(d:List Nat)(m:SL)(hy:EW P T n y L' K)(hu:upL d m L=some L':=by rfl)
 (h:runR P T n ops dr [] L (L'.map Prod.fst)=some (L',[]):=by kernel_rfl):EW P T n (.seq (.region id ops dr) y) L K:=ex L' [] AllP.nil h hy
theorem vxn {id:Nat}{ops:Array Oper}{dr:Bool}{y:Code}(c:Cx P T n E)(d:List Nat)(m:SL)
 (hy:XW P E y L' R) (hu:upL d m L=some L':=by rfl) (h:runR P T n ops dr [] L (L'.map Prod.fst)=some (L',[]):=by kernel_rfl):XW P E (.seq (.region id ops dr) y) L R:=vx c L' [] AllP.nil h hy
def RunJ (P:Program)(T:Tab)(n:Nat)(ops:Array Oper)(dr:Bool)(d:List Nat)(m L:SL):Prop:=∃W cs,AllP cs∧(upL d m L).bind (fun L'=>runR P T n ops dr W L (L'.map Prod.fst))=(upL d m L).map (fun L'=>(L',cs))
variable {ops:Array Oper} {dr:Bool} {d:List Nat}
theorem runJ {m:SL}(W:Wits)(hcs:AllP cs)(h:(upL d m L).bind (fun L'=>runR P T n ops dr W L (L'.map Prod.fst))=(upL d m L).map (fun L'=>(L',cs)):=by kernel_rfl):RunJ P T n ops dr d m L:=⟨W,cs,hcs,h⟩
theorem RunJ.to {m:SL}(h:RunJ P T n ops dr d m L)(hu:upL d m L=some L'):∃W cs,AllP cs∧runR P T n ops dr W L (L'.map Prod.fst)=some (L',cs):=by
 obtain⟨W,cs,h1,h2⟩:=h
 rw[hu]at h2
 exact⟨W,cs,h1,h2⟩
theorem ejd {id:Nat}{y:Code}(d:List Nat)(m:SL)(h:RunJ P T n ops dr d m L)(hy:EW P T n y L' K)(hu:upL d m L=some L':=by rfl):EW P T n (.seq (.region id ops dr) y) L K:=exj L' (h.to hu) hy
theorem ejed {id:Nat}(d:List Nat)(m:SL)(h:RunJ P T n ops dr d m L)(hK:K .normal L')(hu:upL d m L=some L':=by rfl):EW P T n (.region id ops dr) L K:=exje L' (h.to hu) hK
theorem vjd {id:Nat}{y:Code}(c:Cx P T n E)(d:List Nat)(m:SL)(h:RunJ P T n ops dr d m L)
 (hy:XW P E y L' R) (hu:upL d m L=some L':=by rfl):XW P E (.seq (.region id ops dr) y) L R:=vxj c L' (h.to hu) hy
variable {c:Code}
theorem etd {L1:SL}(d:List Nat)(m:SL)(h:∀E,Tu E L L1)(hc:EW P T n c L' K)(hu:upL d m L=some L':=by rfl)(hk:(L'.map Prod.fst).map (fun k=>(k,look L1 k))=L':=by kernel_rfl):EW P T n c L K:=e_tu L1 h (a3S L' hk hc)
variable {x:Code} {sh b:Bool}
theorem ecd {c:Operand}{y:Code}(ht:b=true→EW P T n x L K)(hf:b=false→EW P T n y L K)(hc:ox L c= .one (.lf (.im sh (.bool b))):=by rfl):EW P T n (.cond c x y) L K:=a3K b hc ht hf
variable {p:Prop}
theorem ecp {c:Operand}{y:Code}{_:Decidable p}(ht:p→EW P T n x L K)(hf:¬p→EW P T n y L K)(hc:ox L c= .one (.lf (.im sh (.bool (decide p)))):=by rfl):EW P T n (.cond c x y) L K:=a3K _ hc (fun h=>ht (d5 h)) (fun h=>hf (i5 h))
theorem vcd {c:Operand}{y:Code}(ht:b=true→XW P E x L R)(hf:b=false→XW P E y L R)(hc:ox L c= .one (.lf (.im sh (.bool b))):=by rfl):XW P E (.cond c x y) L R:=a1c b hc ht hf
theorem vcp {c:Operand}{y:Code}{_:Decidable p}(ht:p→XW P E x L R)(hf:¬p→XW P E y L R)(hc:ox L c= .one (.lf (.im sh (.bool (decide p)))):=by rfl):XW P E (.cond c x y) L R:=a1c _ hc (fun h=>ht (d5 h)) (fun h=>hf (i5 h))
variable {α:Type}
theorem getD_some {o:Option α}{d:α}(h:o.isSome=true):o=some (o.getD d):=by cases o with|none=>cases h|some x=>rfl
variable {rs:List ResultVar}
theorem rtE {R:Slot→Prop}(hQ:K .ret L=Fin T rs R .ret L)(hR:R (slotOf ((resX T L rs).getD [])))(h:(resX T L rs).isSome=true:=by kernel_rfl):EW P T n .ret L K:=eret _ hQ (getD_some h) hR
theorem rtM {R:Slot→Slot→Prop}(hQ:K .ret L=FinM T rs R .ret L)(hR:R (look L 1) (slotOf ((resX T L rs).getD [])))(h:(resX T L rs).isSome=true:=by kernel_rfl)
 (hc:((resX T L rs).getD []).all Part.closed=true:=by kernel_rfl) (ho:(look L 1).isOb=true:=by kernel_rfl):EW P T n .ret L K:=eretM _ _ hQ (getD_some h) hc rfl ho hR
theorem rtG {R:Slot→Slot→Prop}(hQ:K .ret L=FinG T rs R .ret L)(hR:R (look L 1) (slotOf ((resG T L rs).getD [])))(h:(resG T L rs).isSome=true:=by kernel_rfl)
 (ho:(look L 1).isOb=true:=by kernel_rfl):EW P T n .ret L K:=eretG _ _ hQ (getD_some h) rfl ho hR
theorem rtV {P:Program}{E:Env}{R:Slot→Prop}{Q:Exit→SL→Prop}(hQ:Q .ret L=Fin T rs R .ret L)(hR:R (slotOf ((resX T L rs).getD [])))(h:(resX T L rs).isSome=true:=by kernel_rfl):XW P E .ret L Q:=xret _ hQ (getD_some h) hR
theorem rtU {st:Bool}{args:List Part}{kq:Option Nat}{R:Slot→Slot→Prop}(nm:Nat)(hQ:K .ret L=FinU T rs st args kq R .ret L)(hk:∀q,kq=some q→∃p,args[q]? =some p∧look L (tk q)= .one p)
 (hR:R (bif st then look L 1 else Slot.hole) (slotOf (((resU T nm L rs).getD []).map canP))) (h:(resU T nm L rs).isSome=true:=by kernel_rfl) (ho:(bif st then(bif st then look L 1 else Slot.hole).isOb else true)=true:=by kernel_rfl):EW P T n .ret L K:=eretU _ nm _ hQ (getD_some h) ho rfl hk hR
theorem esw (x y:Nat)(d:List Nat)(m:SL)(hc:EW P T n c L' K)(hu:upL d m L=some L':=by rfl)(h:swapL x y L=L':=by kernel_rfl)(ho:swapN x y obN=obN:=by rfl):EW P T n c L K:=e_swap x y L' h hc ho
theorem efd (t:Nat)(d:List Nat)(m:SL)(hc:EW P T n c L' K)(hu:upL d m L=some L':=by rfl)(h:(L'.map Prod.fst).map (fun k=>(k,look (frz t L) k))=L':=by kernel_rfl):EW P T n c L K:=e_fr t L' h hc
theorem ekd (d:List Nat)(m:SL)(hc:EW P T n c L' K)(hu:upL d m L=some L':=by rfl)(h:(L'.map Prod.fst).map (fun k=>(k,look L k))=L':=by kernel_rfl):EW P T n c L K:=a3S L' h hc
def upG (d:List Nat)(n L:SL):SL:=(upL d n L).getD []
theorem eld (I:SL→Nat→SL→Prop)(m:Nat)(h0:I L m L)(round:∀m L1,I L m L1→EW P T n c L1 (seqX (fun L'=>∃m',m'<m∧I L m' L') K)):EW P T n (.loop c) L K:=e_loop (I L) m h0 round
theorem vld (I:SL→Nat→SL→Prop)(m:Nat)(h0:I L m L)(round:∀m L1,I L m L1→XW P E c L1 (seqX (fun L'=>∃m',m'<m∧I L m' L') R)):XW P E (.loop c) L R:=a48 (I L) m h0 round
theorem ecT {c:Operand}{y:Code}(h:b=true)(ht:EW P T n x L K)(hc:ox L c= .one (.lf (.im sh (.bool b))):=by rfl):EW P T n (.cond c x y) L K:=a3K b hc (fun _=>ht) (fun k=>by rw[h]at k;cases k)
theorem ecF {c:Operand}{x y:Code}(h:b=false)(hf:EW P T n y L K)(hc:ox L c= .one (.lf (.im sh (.bool b))):=by rfl):EW P T n (.cond c x y) L K:=a3K b hc (fun k=>by rw[h]at k;cases k) (fun _=>hf)
theorem bft (b:Bool):b=true∨b=false:=Bool.eq_false_or_eq_true b
theorem lnl (l:List α)(f:α→List SV):AllP [(Slot.int (((l.map f).length:Nat):Int))=Slot.int ((l.length:Nat):Int)]:=ln
theorem wIo (a b:Int)(h:a=b:=by omega)(h0: -9223372036854775808≤b:=by omega)(h1:b≤9223372036854775807:=by omega):AllP [(Slot.im (.int .i64 (IntKind.i64.wrap a)):Slot)= .int b]:=wI h h0 h1
theorem wI1 (i:Nat)(h1:(i:Int)+1≤9223372036854775807:=by omega):AllP [(Slot.im (.int .i64 (IntKind.i64.wrap ((i:Int)+1))):Slot)= .int ((i+1:Nat):Int)]:=wI (by omega) (by omega) (by omega)
theorem ixh (f:α→List SV){l:List α}{i:Nat}{x:α}(h:l[i]? =some x):AllP [0≤((i:Nat):Int),(l.map f)[((i:Nat):Int).toNat]? =some (f x)]:=ix h
theorem kBs (b c:Bool)(h:b=c:=by first|(simp only[*,Bool.true_or,Bool.false_or,Bool.or_false,Bool.or_true,Bool.true_and,Bool.false_and,Bool.and_true,Bool.and_false,Bool.not_true,Bool.not_false,cond_true,cond_false];done)|(simp[*];done)):AllP [(Slot.bool b)=Slot.bool c]:=kB h
@[reducible] def Leaf.z (i:Int):Leaf:= .im true (.int .i64 i)
@[reducible] def Leaf.y (b:Bool):Leaf:= .im true (.bool b)
@[reducible] def Leaf.q (s:ByteArray):Leaf:= .im true (.str s)
@[reducible] def Leaf.w (n:Nat) (r:List (List SV)):Leaf:= .im true (.sl n r)
@[reducible] def Leaf.m {α:Type} (n:Nat) (l:List α) (f:α→List SV):Leaf:= .im true (.sl n (l.map f))
@[reducible] def Leaf.l {α:Type} (n:Nat) (l:List α) (f:α→List SV):Leaf:= .im false (.sl n (l.map f))
end Go.Proofs.Ytjfjdgjhihgdkaa.V
